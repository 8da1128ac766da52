import Derived.Test.YtkmjiikgkhhciaaGreatT
set_option linter.unusedVariables false
set_option maxRecDepth 100000
namespace Go.Proofs
open Go.Abs
-- loop.example/g01329/laws.FnCuts
namespace F4
noncomputable def ret (P : PT) : EP := retE T0 315 Tryz.f4 P
abbrev k0 : Sk := [(33,.b),(34,.i .i64),(35,.b),(36,.i .i64),(37,.b),(38,.i .i64),(39,.b),(40,.i .i64),(43,.b),(44,.i .i64),(45,.b),(46,.i .i64)]
noncomputable def o1 := ob Tryz.f4 [.r,.r,.r,.r,.r,.r,.r,.r,.r,.r,.r,.r,.r,.r,.r,.r,.r,.r,.r,.l]
def B1 (P : PT) (x33 : Bool) (x34 : Int) (x35 : Bool) (x36 : Int) (x37 : Bool) (x38 : Int) (x39 : Bool) (x40 : Int) (x43 : Bool) (x44 : Int) (x45 : Bool) (x46 : Int) (H : AHeap) : Prop :=
  pif ((x34 : Int) == x36) (pif (x33 == x35) (pif ((x38 : Int) == x40) (pif (x37 == x39) (pif ((x44 : Int) == x46) (P (Value.bool (x43 == x45)) H) (P (Value.bool false) H)) (P (Value.bool false) H)) (P (Value.bool false) H)) (P (Value.bool false) H)) (P (Value.bool false) H)
theorem q1 (P : PT) : QB Tryz.prog T0 315 o1 (ret P) k0 (B1 P) := fun _ _ _ _ _ _ _ _ _ _ _ _ _ _  => by kernel_rfl
abbrev k1 : Sk := [(33,.b),(34,.i .i64),(35,.b),(36,.i .i64),(37,.b),(38,.i .i64),(39,.b),(40,.i .i64),(41,.x),(42,.v),(43,.b),(44,.i .i64)]
noncomputable def o2 := ob Tryz.f4 [.r,.r,.r,.r,.r,.r,.r,.r,.r,.r,.r,.r,.r,.r,.r,.r,.r,.r,.l]
def B2 (P : PT) (x33 : Bool) (x34 : Int) (x35 : Bool) (x36 : Int) (x37 : Bool) (x38 : Int) (x39 : Bool) (x40 : Int) (x41 : Nat) (x42 : Value) (x43 : Bool) (x44 : Int) (H : AHeap) : Prop :=
  ldI .i64 H x41 0 (fun v1 => ld1 H x41 1 (fun v2 => AC Tryz.prog T0 38 [(Value.agg ⟨[(Value.int .i64 v1), v2]⟩), x42] H (fun v3 H4 => tup2 v3 (fun v5 v6 => asB v5 (fun v7 => asI .i64 v6 (fun v8 => B1 P x33 x34 x35 x36 x37 x38 x39 x40 x43 x44 v7 v8 H4))))))
theorem q2 (P : PT) : QB Tryz.prog T0 315 o2 (En 315 k0 (B1 P)) k1 (B2 P) := fun _ _ _ _ _ _ _ _ _ _ _ _ _ _  => by kernel_rfl
abbrev k2 : Sk := [(33,.b),(34,.i .i64),(35,.b),(36,.i .i64),(37,.b),(38,.i .i64),(39,.b),(40,.i .i64),(41,.x),(42,.v)]
noncomputable def o3 := ob Tryz.f4 [.r,.r,.r,.r,.r,.r,.r,.r,.r,.r,.r,.r,.r,.r,.r,.r,.r,.l]
def B3 (P : PT) (x33 : Bool) (x34 : Int) (x35 : Bool) (x36 : Int) (x37 : Bool) (x38 : Int) (x39 : Bool) (x40 : Int) (x41 : Nat) (x42 : Value) (H : AHeap) : Prop :=
  ldI .i64 H x41 0 (fun v1 => ld1 H x41 1 (fun v2 => AC Tryz.prog T0 32 [(Value.agg ⟨[(Value.int .i64 v1), v2]⟩), x42] H (fun v3 H4 => tup2 v3 (fun v5 v6 => asB v5 (fun v7 => asI .i64 v6 (fun v8 => B2 P x33 x34 x35 x36 x37 x38 x39 x40 x41 x42 v7 v8 H4))))))
theorem q3 (P : PT) : QB Tryz.prog T0 315 o3 (En 315 k1 (B2 P)) k2 (B3 P) := fun _ _ _ _ _ _ _ _ _ _ _ _  => by kernel_rfl
abbrev k3 : Sk := [(0,.v),(33,.b),(34,.i .i64),(35,.b),(36,.i .i64),(37,.b),(38,.i .i64),(39,.b),(40,.i .i64)]
noncomputable def o4 := ob Tryz.f4 [.r,.r,.r,.r,.r,.r,.r,.r,.r,.r,.r,.r,.r,.r,.r,.r,.l]
def B4 (P : PT) (x0 : Value) (x33 : Bool) (x34 : Int) (x35 : Bool) (x36 : Int) (x37 : Bool) (x38 : Int) (x39 : Bool) (x40 : Int) (H : AHeap) : Prop :=
  AC Tryz.prog T0 37 [x0] H (fun v1 H2 => tup2 v1 (fun v3 v4 => agg2 v3 (fun v5 v6 => asI .i64 v5 (fun v7 => newK H2 [(Value.int .i64 0), (Value.slice none 0 0)] 26 (fun b10 H11 => stK H11 b10 0 [(Value.int .i64 v7), v6] (fun H12 => B3 P x33 x34 x35 x36 x37 x38 x39 x40 b10 v4 H12))))))
theorem q4 (P : PT) : QB Tryz.prog T0 315 o4 (En 315 k2 (B3 P)) k3 (B4 P) := fun _ _ _ _ _ _ _ _ _ _ _  => by kernel_rfl
abbrev k4 : Sk := [(0,.v),(31,.x),(32,.v),(33,.b),(34,.i .i64),(35,.b),(36,.i .i64),(37,.b),(38,.i .i64)]
noncomputable def o5 := ob Tryz.f4 [.r,.r,.r,.r,.r,.r,.r,.r,.r,.r,.r,.r,.r,.r,.r,.l]
def B5 (P : PT) (x0 : Value) (x31 : Nat) (x32 : Value) (x33 : Bool) (x34 : Int) (x35 : Bool) (x36 : Int) (x37 : Bool) (x38 : Int) (H : AHeap) : Prop :=
  ldI .i64 H x31 0 (fun v1 => ld1 H x31 1 (fun v2 => AC Tryz.prog T0 36 [(Value.agg ⟨[(Value.int .i64 v1), v2]⟩), x32] H (fun v3 H4 => tup2 v3 (fun v5 v6 => asB v5 (fun v7 => asI .i64 v6 (fun v8 => B4 P x0 x33 x34 x35 x36 x37 x38 v7 v8 H4))))))
theorem q5 (P : PT) : QB Tryz.prog T0 315 o5 (En 315 k3 (B4 P)) k4 (B5 P) := fun _ _ _ _ _ _ _ _ _ _ _  => by kernel_rfl
abbrev k5 : Sk := [(0,.v),(31,.x),(32,.v),(33,.b),(34,.i .i64),(35,.b),(36,.i .i64)]
noncomputable def o6 := ob Tryz.f4 [.r,.r,.r,.r,.r,.r,.r,.r,.r,.r,.r,.r,.r,.r,.l]
def B6 (P : PT) (x0 : Value) (x31 : Nat) (x32 : Value) (x33 : Bool) (x34 : Int) (x35 : Bool) (x36 : Int) (H : AHeap) : Prop :=
  ldI .i64 H x31 0 (fun v1 => ld1 H x31 1 (fun v2 => AC Tryz.prog T0 16 [(Value.agg ⟨[(Value.int .i64 v1), v2]⟩), x32] H (fun v3 H4 => tup2 v3 (fun v5 v6 => asB v5 (fun v7 => asI .i64 v6 (fun v8 => B5 P x0 x31 x32 x33 x34 x35 x36 v7 v8 H4))))))
theorem q6 (P : PT) : QB Tryz.prog T0 315 o6 (En 315 k4 (B5 P)) k5 (B6 P) := fun _ _ _ _ _ _ _ _ _  => by kernel_rfl
abbrev k6 : Sk := [(0,.v),(31,.x),(32,.v),(33,.b),(34,.i .i64)]
noncomputable def o7 := ob Tryz.f4 [.r,.r,.r,.r,.r,.r,.r,.r,.r,.r,.r,.r,.r,.l]
def B7 (P : PT) (x0 : Value) (x31 : Nat) (x32 : Value) (x33 : Bool) (x34 : Int) (H : AHeap) : Prop :=
  ldI .i64 H x31 0 (fun v1 => ld1 H x31 1 (fun v2 => AC Tryz.prog T0 35 [(Value.agg ⟨[(Value.int .i64 v1), v2]⟩), x32] H (fun v3 H4 => tup2 v3 (fun v5 v6 => asB v5 (fun v7 => asI .i64 v6 (fun v8 => B6 P x0 x31 x32 x33 x34 v7 v8 H4))))))
theorem q7 (P : PT) : QB Tryz.prog T0 315 o7 (En 315 k5 (B6 P)) k6 (B7 P) := fun _ _ _ _ _ _ _  => by kernel_rfl
abbrev k7 : Sk := [(0,.v),(31,.x),(32,.v)]
noncomputable def o8 := ob Tryz.f4 [.r,.r,.r,.r,.r,.r,.r,.r,.r,.r,.r,.r,.l]
def B8 (P : PT) (x0 : Value) (x31 : Nat) (x32 : Value) (H : AHeap) : Prop :=
  ldI .i64 H x31 0 (fun v1 => ld1 H x31 1 (fun v2 => AC Tryz.prog T0 31 [(Value.agg ⟨[(Value.int .i64 v1), v2]⟩), x32] H (fun v3 H4 => tup2 v3 (fun v5 v6 => asB v5 (fun v7 => asI .i64 v6 (fun v8 => B7 P x0 x31 x32 v7 v8 H4))))))
theorem q8 (P : PT) : QB Tryz.prog T0 315 o8 (En 315 k6 (B7 P)) k7 (B8 P) := fun _ _ _ _ _  => by kernel_rfl
abbrev k8 : Sk := [(0,.v)]
noncomputable def o9 := ob Tryz.f4 [.r,.r,.r,.r,.r,.r,.r,.r,.r,.r,.r,.l]
def B9 (P : PT) (x0 : Value) (H : AHeap) : Prop :=
  AC Tryz.prog T0 34 [x0] H (fun v1 H2 => tup2 v1 (fun v3 v4 => agg2 v3 (fun v5 v6 => asI .i64 v5 (fun v7 => newK H2 [(Value.int .i64 0), (Value.slice none 0 0)] 26 (fun b10 H11 => stK H11 b10 0 [(Value.int .i64 v7), v6] (fun H12 => B8 P x0 b10 v4 H12))))))
theorem q9 (P : PT) : QB Tryz.prog T0 315 o9 (En 315 k7 (B8 P)) k8 (B9 P) := fun _ _ _  => by kernel_rfl
abbrev k9 : Sk := []
noncomputable def o10 := ob Tryz.f4 [.r,.r,.r,.r,.r,.r,.r,.r,.r,.r,.l,.r,.l,.r,.r,.r,.r,.r,.r,.r,.r,.r,.l,.l]
def B10 (P : PT) (H : AHeap) : Prop :=
  P (Value.bool false) H
theorem q10 (P : PT) : QB Tryz.prog T0 315 o10 (ret P) k9 (B10 P) := fun _ _  => by kernel_rfl
abbrev k10 : Sk := [(0,.v),(9,.x),(11,.v),(15,.i .i64),(16,.i .i64),(17,.i .i64),(18,.i .i64),(19,.i .i64),(20,.i .i64),(21,.b),(22,.i .i64),(23,.b),(24,.i .i64),(25,.b),(26,.i .i64),(27,.v),(28,.i .i64),(29,.i .i64)]
noncomputable def o11 := ob Tryz.f4 [.r,.r,.r,.r,.r,.r,.r,.r,.r,.r,.l,.r,.l,.r,.r,.r,.r,.r,.r,.r,.r,.l]
def B11 (P : PT) (x0 : Value) (x9 : Nat) (x11 : Value) (x15 x16 x17 x18 x19 x20 : Int) (x21 : Bool) (x22 : Int) (x23 : Bool) (x24 : Int) (x25 : Bool) (x26 : Int) (x27 : Value) (x28 x29 : Int) (H : AHeap) : Prop :=
  pif ((x17 : Int) != x20) (B10 P H) (pif ((x15 : Int) != x18) (B10 P H) (pif ((x16 : Int) != x19) (B10 P H) (pif ((x17 : Int) != 0) (B10 P H) (pif ((x22 : Int) != 0) (B10 P H) (pif ((x24 : Int) != 0) (B10 P H) (pif ((x26 : Int) != 0) (B10 P H) (pif ((x28 : Int) != 0) (B10 P H) (lenK x11 (fun n1 => pif ((x15 : Int) != (n1 : Int)) (B10 P H) (pif (decide ((x16 : Int) > x15)) (B10 P H) (ldI .i64 H x9 0 (fun v2 => pif ((x29 : Int) != v2) (B10 P H) (lenK x11 (fun n3 => lenK x27 (fun n4 => pif (!(x21 == (decide (((n3 : Int) : Int) > (n4 : Int))))) (B10 P H) (pif x23 (pif (!x21) (B10 P H) (pif x21 (pif (!(x25 == (decide ((x16 : Int) ≥ 2)))) (B10 P H) (B9 P x0 H)) (pif (!(x25 == false)) (B10 P H) (B9 P x0 H)))) (pif x21 (pif (!(x25 == (decide ((x16 : Int) ≥ 2)))) (B10 P H) (B9 P x0 H)) (pif (!(x25 == false)) (B10 P H) (B9 P x0 H)))))))))))))))))))
theorem q11 (P : PT) : QB Tryz.prog T0 315 o11 (cnd 240 (En 315 k9 (B10 P)) (En 315 k8 (B9 P))) k10 (B11 P) := fun _ _ _ _ _ _ _ _ _ _ _ _ _ _ _ _ _ _ _ _  => by kernel_rfl
abbrev k11 : Sk := [(0,.v),(9,.x),(11,.v),(15,.i .i64),(16,.i .i64),(17,.i .i64),(18,.i .i64),(19,.i .i64),(20,.i .i64),(21,.b),(22,.i .i64),(23,.b),(24,.i .i64),(25,.b),(26,.i .i64),(27,.v),(28,.i .i64),(29,.i .i64),(30,.i .i64)]
noncomputable def o13 := ob Tryz.f4 [.r,.r,.r,.r,.r,.r,.r,.r,.r,.r,.l,.r,.l,.r,.r,.r,.r,.r,.r,.r,.l,.r,.l,.l,.r,.r]
def B13 (P : PT) (N12 : NTy k11 Pr) (x0 : Value) (x9 : Nat) (x11 : Value) (x15 x16 x17 x18 x19 x20 : Int) (x21 : Bool) (x22 : Int) (x23 : Bool) (x24 : Int) (x25 : Bool) (x26 : Int) (x27 : Value) (x28 x29 x30 : Int) (H : AHeap) : Prop :=
  N12 x0 x9 x11 x15 x16 x17 x18 x19 x20 x21 x22 x23 x24 x25 x26 x27 x28 x29 (IntKind.i64.wrap (x30 + 1)) H
theorem q13 (P : PT) (N12 : NTy k11 Pr) : QB Tryz.prog T0 315 o13 (En 315 k11 N12) k11 (B13 P N12) := fun _ _ _ _ _ _ _ _ _ _ _ _ _ _ _ _ _ _ _ _ _  => by kernel_rfl
noncomputable def o14 := ob Tryz.f4 [.r,.r,.r,.r,.r,.r,.r,.r,.r,.r,.l,.r,.l,.r,.r,.r,.r,.r,.r,.r,.l,.r,.l,.l,.r,.l,.l]
def B14 (P : PT) (N12 : NTy k11 Pr) (x0 : Value) (x9 : Nat) (x11 : Value) (x15 x16 x17 x18 x19 x20 : Int) (x21 : Bool) (x22 : Int) (x23 : Bool) (x24 : Int) (x25 : Bool) (x26 : Int) (x27 : Value) (x28 x29 x30 : Int) (H : AHeap) : Prop :=
  idxK x11 x30 1 (fun b1 o2 => ld1 H b1 o2 (fun v3 => lenK v3 (fun n4 => B13 P N12 x0 x9 x11 x15 x16 x17 x18 x19 x20 x21 x22 x23 x24 x25 x26 x27 x28 (IntKind.i64.wrap (x29 + (n4 : Int))) x30 H)))
theorem q14 (P : PT) (N12 : NTy k11 Pr) : QB Tryz.prog T0 315 o14 (En 315 k11 (B13 P N12)) k11 (B14 P N12) := fun _ _ _ _ _ _ _ _ _ _ _ _ _ _ _ _ _ _ _ _ _  => by kernel_rfl
noncomputable def o15 := ob Tryz.f4 [.r,.r,.r,.r,.r,.r,.r,.r,.r,.r,.l,.r,.l,.r,.r,.r,.r,.r,.r,.r,.l,.r,.l,.l,.l,.l]
def B15 (P : PT) (N12 : NTy k11 Pr) (x0 : Value) (x9 : Nat) (x11 : Value) (x15 x16 x17 x18 x19 x20 : Int) (x21 : Bool) (x22 : Int) (x23 : Bool) (x24 : Int) (x25 : Bool) (x26 : Int) (x27 : Value) (x28 x29 x30 : Int) (H : AHeap) : Prop :=
  lenK x11 (fun n1 => pif (decide ((x30 : Int) < (n1 : Int))) (B14 P N12 x0 x9 x11 x15 x16 x17 x18 x19 x20 x21 x22 x23 x24 x25 x26 x27 x28 x29 x30 H) (B11 P x0 x9 x11 x15 x16 x17 x18 x19 x20 x21 x22 x23 x24 x25 x26 x27 x28 x29 H))
theorem q15 (P : PT) (N12 : NTy k11 Pr) : QB Tryz.prog T0 315 o15 (cnd 156 (En 315 k11 (B14 P N12)) (En 315 k10 (B11 P))) k11 (B15 P N12) := fun _ _ _ _ _ _ _ _ _ _ _ _ _ _ _ _ _ _ _ _ _  => by kernel_rfl
def L12 (P : PT) (x0 : Value) (x9 : Nat) (x11 : Value) (x15 x16 x17 x18 x19 x20 : Int) (x21 : Bool) (x22 : Int) (x23 : Bool) (x24 : Int) (x25 : Bool) (x26 : Int) (x27 : Value) (x28 x29 x30 : Int) (H : AHeap) : Prop :=
  ∃ (I : NTy k11 Pr) (μ : NTy k11 (AHeap → Nat)), I x0 x9 x11 x15 x16 x17 x18 x19 x20 x21 x22 x23 x24 x25 x26 x27 x28 x29 x30 H ∧ ∀ y0 y9 y11 y15 y16 y17 y18 y19 y20 y21 y22 y23 y24 y25 y26 y27 y28 y29 y30 G, I y0 y9 y11 y15 y16 y17 y18 y19 y20 y21 y22 y23 y24 y25 y26 y27 y28 y29 y30 G → B15 P (fun z0 z9 z11 z15 z16 z17 z18 z19 z20 z21 z22 z23 z24 z25 z26 z27 z28 z29 z30 G' => I z0 z9 z11 z15 z16 z17 z18 z19 z20 z21 z22 z23 z24 z25 z26 z27 z28 z29 z30 G' ∧ μ z0 z9 z11 z15 z16 z17 z18 z19 z20 z21 z22 z23 z24 z25 z26 z27 z28 z29 z30 G' < μ y0 y9 y11 y15 y16 y17 y18 y19 y20 y21 y22 y23 y24 y25 y26 y27 y28 y29 y30 G) y0 y9 y11 y15 y16 y17 y18 y19 y20 y21 y22 y23 y24 y25 y26 y27 y28 y29 y30 G
theorem l12 (P : PT) : LQ k11 (L12 P) (B15 P) := fun ⟨_,_,_,_,_,_,_,_,_,_,_,_,_,_,_,_,_,_,_,_⟩ _ ⟨I, μ, h0, hI⟩ => ⟨apT _ I, apT _ μ, h0, fun ⟨_,_,_,_,_,_,_,_,_,_,_,_,_,_,_,_,_,_,_,_⟩ _ h => hI _ _ _ _ _ _ _ _ _ _ _ _ _ _ _ _ _ _ _ _  h⟩
noncomputable def o16 := ob Tryz.f4 [.r,.r,.r,.r,.r,.r,.r,.r,.r,.r,.l,.r,.l,.r,.r,.r,.r,.r,.r,.r,.l,.l]
def B16 (P : PT) (x0 : Value) (x9 : Nat) (x11 : Value) (x15 x16 x17 x18 x19 x20 : Int) (x21 : Bool) (x22 : Int) (x23 : Bool) (x24 : Int) (x25 : Bool) (x26 : Int) (x27 : Value) (x28 x29 : Int) (H : AHeap) : Prop :=
  L12 P x0 x9 x11 x15 x16 x17 x18 x19 x20 x21 x22 x23 x24 x25 x26 x27 x28 x29 0 H
theorem q16 (P : PT) : QB Tryz.prog T0 315 o16 (En 315 k11 (L12 P)) k10 (B16 P) := fun _ _ _ _ _ _ _ _ _ _ _ _ _ _ _ _ _ _ _ _  => by kernel_rfl
abbrev k12 : Sk := [(0,.v),(9,.x),(11,.v),(15,.i .i64),(16,.i .i64),(17,.i .i64),(18,.i .i64),(19,.i .i64),(20,.i .i64),(21,.b),(22,.i .i64),(23,.b),(24,.i .i64),(25,.b),(26,.i .i64),(27,.v),(28,.i .i64)]
noncomputable def o17 := ob Tryz.f4 [.r,.r,.r,.r,.r,.r,.r,.r,.r,.r,.l,.r,.l,.r,.r,.r,.r,.r,.r,.l]
def B17 (P : PT) (x0 : Value) (x9 : Nat) (x11 : Value) (x15 x16 x17 x18 x19 x20 : Int) (x21 : Bool) (x22 : Int) (x23 : Bool) (x24 : Int) (x25 : Bool) (x26 : Int) (x27 : Value) (x28 : Int) (H : AHeap) : Prop :=
  B16 P x0 x9 x11 x15 x16 x17 x18 x19 x20 x21 x22 x23 x24 x25 x26 x27 x28 0 H
theorem q17 (P : PT) : QB Tryz.prog T0 315 o17 (En 315 k10 (B16 P)) k12 (B17 P) := fun _ _ _ _ _ _ _ _ _ _ _ _ _ _ _ _ _ _ _  => by kernel_rfl
abbrev k13 : Sk := [(0,.v),(9,.x),(11,.v),(15,.i .i64),(16,.i .i64),(17,.i .i64),(18,.i .i64),(19,.i .i64),(20,.i .i64),(21,.b),(22,.i .i64),(23,.b),(24,.i .i64),(25,.b),(26,.i .i64)]
noncomputable def o18 := ob Tryz.f4 [.r,.r,.r,.r,.r,.r,.r,.r,.r,.r,.l,.r,.l,.r,.r,.r,.r,.r,.l]
def B18 (P : PT) (x0 : Value) (x9 : Nat) (x11 : Value) (x15 x16 x17 x18 x19 x20 : Int) (x21 : Bool) (x22 : Int) (x23 : Bool) (x24 : Int) (x25 : Bool) (x26 : Int) (H : AHeap) : Prop :=
  ldI .i64 H x9 0 (fun v1 => ld1 H x9 1 (fun v2 => AC Tryz.prog T0 33 [(Value.agg ⟨[(Value.int .i64 v1), v2]⟩)] H (fun v3 H4 => tup2 v3 (fun v5 v6 => asI .i64 v6 (fun v8 => B17 P x0 x9 x11 x15 x16 x17 x18 x19 x20 x21 x22 x23 x24 x25 x26 v5 v8 H4)))))
theorem q18 (P : PT) : QB Tryz.prog T0 315 o18 (En 315 k12 (B17 P)) k13 (B18 P) := fun _ _ _ _ _ _ _ _ _ _ _ _ _ _ _ _ _  => by kernel_rfl
abbrev k14 : Sk := [(0,.v),(9,.x),(10,.v),(11,.v),(15,.i .i64),(16,.i .i64),(17,.i .i64),(18,.i .i64),(19,.i .i64),(20,.i .i64),(21,.b),(22,.i .i64),(23,.b),(24,.i .i64)]
noncomputable def o19 := ob Tryz.f4 [.r,.r,.r,.r,.r,.r,.r,.r,.r,.r,.l,.r,.l,.r,.r,.r,.r,.l]
def B19 (P : PT) (x0 : Value) (x9 : Nat) (x10 x11 : Value) (x15 x16 x17 x18 x19 x20 : Int) (x21 : Bool) (x22 : Int) (x23 : Bool) (x24 : Int) (H : AHeap) : Prop :=
  ldI .i64 H x9 0 (fun v1 => ld1 H x9 1 (fun v2 => AC Tryz.prog T0 32 [(Value.agg ⟨[(Value.int .i64 v1), v2]⟩), x10] H (fun v3 H4 => tup2 v3 (fun v5 v6 => asB v5 (fun v7 => asI .i64 v6 (fun v8 => B18 P x0 x9 x11 x15 x16 x17 x18 x19 x20 x21 x22 x23 x24 v7 v8 H4))))))
theorem q19 (P : PT) : QB Tryz.prog T0 315 o19 (En 315 k13 (B18 P)) k14 (B19 P) := fun _ _ _ _ _ _ _ _ _ _ _ _ _ _ _ _  => by kernel_rfl
abbrev k15 : Sk := [(0,.v),(9,.x),(10,.v),(11,.v),(15,.i .i64),(16,.i .i64),(17,.i .i64),(18,.i .i64),(19,.i .i64),(20,.i .i64),(21,.b),(22,.i .i64)]
noncomputable def o20 := ob Tryz.f4 [.r,.r,.r,.r,.r,.r,.r,.r,.r,.r,.l,.r,.l,.r,.r,.r,.l]
def B20 (P : PT) (x0 : Value) (x9 : Nat) (x10 x11 : Value) (x15 x16 x17 x18 x19 x20 : Int) (x21 : Bool) (x22 : Int) (H : AHeap) : Prop :=
  ldI .i64 H x9 0 (fun v1 => ld1 H x9 1 (fun v2 => AC Tryz.prog T0 16 [(Value.agg ⟨[(Value.int .i64 v1), v2]⟩), x10] H (fun v3 H4 => tup2 v3 (fun v5 v6 => asB v5 (fun v7 => asI .i64 v6 (fun v8 => B19 P x0 x9 x10 x11 x15 x16 x17 x18 x19 x20 x21 x22 v7 v8 H4))))))
theorem q20 (P : PT) : QB Tryz.prog T0 315 o20 (En 315 k14 (B19 P)) k15 (B20 P) := fun _ _ _ _ _ _ _ _ _ _ _ _ _ _  => by kernel_rfl
abbrev k16 : Sk := [(0,.v),(9,.x),(10,.v),(11,.v),(15,.i .i64),(16,.i .i64),(17,.i .i64),(18,.i .i64),(19,.i .i64),(20,.i .i64)]
noncomputable def o21 := ob Tryz.f4 [.r,.r,.r,.r,.r,.r,.r,.r,.r,.r,.l,.r,.l,.r,.r,.l]
def B21 (P : PT) (x0 : Value) (x9 : Nat) (x10 x11 : Value) (x15 x16 x17 x18 x19 x20 : Int) (H : AHeap) : Prop :=
  ldI .i64 H x9 0 (fun v1 => ld1 H x9 1 (fun v2 => AC Tryz.prog T0 31 [(Value.agg ⟨[(Value.int .i64 v1), v2]⟩), x10] H (fun v3 H4 => tup2 v3 (fun v5 v6 => asB v5 (fun v7 => asI .i64 v6 (fun v8 => B20 P x0 x9 x10 x11 x15 x16 x17 x18 x19 x20 v7 v8 H4))))))
theorem q21 (P : PT) : QB Tryz.prog T0 315 o21 (En 315 k15 (B20 P)) k16 (B21 P) := fun _ _ _ _ _ _ _ _ _ _ _ _  => by kernel_rfl
abbrev k17 : Sk := [(0,.v),(9,.x),(10,.v),(11,.v),(15,.i .i64),(16,.i .i64),(17,.i .i64)]
noncomputable def o22 := ob Tryz.f4 [.r,.r,.r,.r,.r,.r,.r,.r,.r,.r,.l,.r,.l,.r,.l]
def B22 (P : PT) (x0 : Value) (x9 : Nat) (x10 x11 : Value) (x15 x16 x17 : Int) (H : AHeap) : Prop :=
  ldI .i64 H x9 0 (fun v1 => ld1 H x9 1 (fun v2 => AC Tryz.prog T0 30 [(Value.agg ⟨[(Value.int .i64 v1), v2]⟩), x10] H (fun v3 H4 => tup3 v3 (fun v5 v6 v7 => asI .i64 v5 (fun v8 => asI .i64 v6 (fun v9 => asI .i64 v7 (fun v10 => B21 P x0 x9 x10 x11 x15 x16 x17 v8 v9 v10 H4)))))))
theorem q22 (P : PT) : QB Tryz.prog T0 315 o22 (En 315 k16 (B21 P)) k17 (B22 P) := fun _ _ _ _ _ _ _ _ _  => by kernel_rfl
abbrev k18 : Sk := [(0,.v),(9,.x),(10,.v),(11,.v)]
noncomputable def o23 := ob Tryz.f4 [.r,.r,.r,.r,.r,.r,.r,.r,.r,.r,.l,.r,.l,.l]
def B23 (P : PT) (x0 : Value) (x9 : Nat) (x10 x11 : Value) (H : AHeap) : Prop :=
  ldI .i64 H x9 0 (fun v1 => ld1 H x9 1 (fun v2 => AC Tryz.prog T0 29 [(Value.agg ⟨[(Value.int .i64 v1), v2]⟩), x10] H (fun v3 H4 => tup3 v3 (fun v5 v6 v7 => asI .i64 v5 (fun v8 => asI .i64 v6 (fun v9 => asI .i64 v7 (fun v10 => B22 P x0 x9 x10 x11 v8 v9 v10 H4)))))))
theorem q23 (P : PT) : QB Tryz.prog T0 315 o23 (En 315 k17 (B22 P)) k18 (B23 P) := fun _ _ _ _ _ _  => by kernel_rfl
abbrev k19 : Sk := [(0,.v),(9,.x),(10,.v),(11,.v),(12,.i .i64)]
noncomputable def o24 := ob Tryz.f4 [.r,.r,.r,.r,.r,.r,.r,.r,.r,.r,.l,.l]
def B24 (P : PT) (x0 : Value) (x9 : Nat) (x10 x11 : Value) (x12 : Int) (H : AHeap) : Prop :=
  pif ((x12 : Int) == 0) (B23 P x0 x9 x10 x11 H) (B9 P x0 H)
theorem q24 (P : PT) : QB Tryz.prog T0 315 o24 (cnd 115 (En 315 k18 (B23 P)) (En 315 k8 (B9 P))) k19 (B24 P) := fun _ _ _ _ _ _ _  => by kernel_rfl
noncomputable def o25 := ob Tryz.f4 [.r,.r,.r,.r,.r,.r,.r,.r,.r,.l,.r,.l,.l]
def B25 (P : PT) (H : AHeap) : Prop :=
  P (Value.bool false) H
theorem q25 (P : PT) : QB Tryz.prog T0 315 o25 (ret P) k9 (B25 P) := fun _ _  => by kernel_rfl
abbrev k20 : Sk := [(0,.v),(9,.x),(10,.v),(11,.v),(12,.i .i64),(13,.v),(14,.i .i64)]
noncomputable def o26 := ob Tryz.f4 [.r,.r,.r,.r,.r,.r,.r,.r,.r,.l,.l]
def B26 (P : PT) (x0 : Value) (x9 : Nat) (x10 x11 : Value) (x12 : Int) (x13 : Value) (x14 : Int) (H : AHeap) : Prop :=
  pif ((x12 : Int) != x14) (B25 P H) (AC Tryz.prog T0 15 [x11, x13] H (fun v1 H2 => asB v1 (fun v3 => pif (!v3) (B25 P H2) (B24 P x0 x9 x10 x11 x12 H2))))
theorem q26 (P : PT) : QB Tryz.prog T0 315 o26 (cnd 113 (En 315 k9 (B25 P)) (En 315 k19 (B24 P))) k20 (B26 P) := fun _ _ _ _ _ _ _ _ _  => by kernel_rfl
noncomputable def o27 := ob Tryz.f4 [.r,.r,.r,.r,.r,.r,.r,.r,.l]
def B27 (P : PT) (x0 : Value) (x9 : Nat) (x10 x11 : Value) (x12 : Int) (H : AHeap) : Prop :=
  ldI .i64 H x9 0 (fun v1 => ld1 H x9 1 (fun v2 => AC Tryz.prog T0 28 [(Value.agg ⟨[(Value.int .i64 v1), v2]⟩), x10] H (fun v3 H4 => tup2 v3 (fun v5 v6 => asI .i64 v6 (fun v8 => B26 P x0 x9 x10 x11 x12 v5 v8 H4)))))
theorem q27 (P : PT) : QB Tryz.prog T0 315 o27 (En 315 k20 (B26 P)) k19 (B27 P) := fun _ _ _ _ _ _ _  => by kernel_rfl
abbrev k21 : Sk := [(0,.v),(9,.x),(10,.v)]
noncomputable def o28 := ob Tryz.f4 [.r,.r,.r,.r,.r,.r,.r,.l]
def B28 (P : PT) (x0 : Value) (x9 : Nat) (x10 : Value) (H : AHeap) : Prop :=
  ldI .i64 H x9 0 (fun v1 => ld1 H x9 1 (fun v2 => AC Tryz.prog T0 27 [(Value.agg ⟨[(Value.int .i64 v1), v2]⟩), x10] H (fun v3 H4 => tup2 v3 (fun v5 v6 => asI .i64 v6 (fun v8 => B27 P x0 x9 x10 v5 v8 H4)))))
theorem q28 (P : PT) : QB Tryz.prog T0 315 o28 (En 315 k19 (B27 P)) k21 (B28 P) := fun _ _ _ _ _  => by kernel_rfl
noncomputable def o29 := ob Tryz.f4 [.r,.r,.r,.r,.r,.r,.l]
def B29 (P : PT) (x0 : Value) (H : AHeap) : Prop :=
  AC Tryz.prog T0 26 [x0] H (fun v1 H2 => tup2 v1 (fun v3 v4 => agg2 v3 (fun v5 v6 => asI .i64 v5 (fun v7 => newK H2 [(Value.int .i64 0), (Value.slice none 0 0)] 26 (fun b10 H11 => stK H11 b10 0 [(Value.int .i64 v7), v6] (fun H12 => B28 P x0 b10 v4 H12))))))
theorem q29 (P : PT) : QB Tryz.prog T0 315 o29 (En 315 k21 (B28 P)) k8 (B29 P) := fun _ _ _  => by kernel_rfl
noncomputable def o30 := ob Tryz.f4 [.r,.r,.r,.r,.r,.l,.r,.l,.l]
def B30 (P : PT) (H : AHeap) : Prop :=
  P (Value.bool false) H
theorem q30 (P : PT) : QB Tryz.prog T0 315 o30 (ret P) k9 (B30 P) := fun _ _  => by kernel_rfl
abbrev k22 : Sk := [(0,.v),(4,.v),(5,.v),(6,.i .i64),(7,.v),(8,.i .i64)]
noncomputable def o31 := ob Tryz.f4 [.r,.r,.r,.r,.r,.l,.l]
def B31 (P : PT) (x0 x4 x5 : Value) (x6 : Int) (x7 : Value) (x8 : Int) (H : AHeap) : Prop :=
  pif ((x6 : Int) != x8) (B30 P H) (AC Tryz.prog T0 11 [x5, x7] H (fun v1 H2 => asB v1 (fun v3 => pif (!v3) (B30 P H2) (pif ((x6 : Int) == 0) (lenK x5 (fun n4 => lenK x4 (fun n5 => pif ((Int.tmod (IntKind.i64.wrap ((n4 : Int) - (n5 : Int))) 2 : Int) != 0) (B30 P H2) (B29 P x0 H2)))) (B29 P x0 H2)))))
theorem q31 (P : PT) : QB Tryz.prog T0 315 o31 (cnd 87 (En 315 k9 (B30 P)) (En 315 k8 (B29 P))) k22 (B31 P) := fun _ _ _ _ _ _ _ _  => by kernel_rfl
abbrev k23 : Sk := [(0,.v),(3,.x),(4,.v),(5,.v),(6,.i .i64)]
noncomputable def o32 := ob Tryz.f4 [.r,.r,.r,.r,.l]
def B32 (P : PT) (x0 : Value) (x3 : Nat) (x4 x5 : Value) (x6 : Int) (H : AHeap) : Prop :=
  ldI .i64 H x3 0 (fun v1 => ld1 H x3 1 (fun v2 => AC Tryz.prog T0 25 [(Value.agg ⟨[(Value.int .i64 v1), v2]⟩), x4] H (fun v3 H4 => tup2 v3 (fun v5 v6 => asI .i64 v6 (fun v8 => B31 P x0 x4 x5 x6 v5 v8 H4)))))
theorem q32 (P : PT) : QB Tryz.prog T0 315 o32 (En 315 k22 (B31 P)) k23 (B32 P) := fun _ _ _ _ _ _ _  => by kernel_rfl
abbrev k24 : Sk := [(0,.v),(3,.x),(4,.v)]
noncomputable def o33 := ob Tryz.f4 [.r,.r,.r,.l]
def B33 (P : PT) (x0 : Value) (x3 : Nat) (x4 : Value) (H : AHeap) : Prop :=
  ldI .i64 H x3 0 (fun v1 => ld1 H x3 1 (fun v2 => AC Tryz.prog T0 24 [(Value.agg ⟨[(Value.int .i64 v1), v2]⟩), x4] H (fun v3 H4 => tup2 v3 (fun v5 v6 => asI .i64 v6 (fun v8 => B32 P x0 x3 x4 v5 v8 H4)))))
theorem q33 (P : PT) : QB Tryz.prog T0 315 o33 (En 315 k23 (B32 P)) k24 (B33 P) := fun _ _ _ _ _  => by kernel_rfl
noncomputable def o34 := ob Tryz.f4 [.r,.r,.l]
def B34 (P : PT) (x0 : Value) (H : AHeap) : Prop :=
  AC Tryz.prog T0 23 [x0] H (fun v1 H2 => tup2 v1 (fun v3 v4 => agg2 v3 (fun v5 v6 => asI .i64 v5 (fun v7 => newK H2 [(Value.int .i64 0), (Value.slice none 0 0)] 26 (fun b10 H11 => stK H11 b10 0 [(Value.int .i64 v7), v6] (fun H12 => B33 P x0 b10 v4 H12))))))
theorem q34 (P : PT) : QB Tryz.prog T0 315 o34 (En 315 k24 (B33 P)) k8 (B34 P) := fun _ _ _  => by kernel_rfl
noncomputable def o35 := ob Tryz.f4 [.r,.l,.r,.l,.l]
def B35 (P : PT) (H : AHeap) : Prop :=
  P (Value.bool true) H
theorem q35 (P : PT) : QB Tryz.prog T0 315 o35 (ret P) k9 (B35 P) := fun _ _  => by kernel_rfl
noncomputable def o36 := ob Tryz.f4 [.r,.l,.l]
def B36 (P : PT) (x0 : Value) (H : AHeap) : Prop :=
  AC Tryz.prog T0 7 [x0] H (fun v1 H2 => asB v1 (fun v3 => pif v3 (B35 P H2) (B34 P x0 H2)))
theorem q36 (P : PT) : QB Tryz.prog T0 315 o36 (cnd 48 (En 315 k9 (B35 P)) (En 315 k8 (B34 P))) k8 (B36 P) := fun _ _ _  => by kernel_rfl
noncomputable def o37 := ob Tryz.f4 [.l]
def B37 (P : PT) (x0 : Value) (H : AHeap) : Prop :=
  B36 P x0 H
theorem q37 (P : PT) : QB Tryz.prog T0 315 o37 (En 315 k8 (B36 P)) k8 (B37 P) := fun _ _ _  => by kernel_rfl
noncomputable def code : Code := (.seq (.region 0 ⟨o37⟩ false) (.seq (.seq (.region 1 ⟨o36⟩ false) (.cond (.tmp 48) (.seq (.region 2 ⟨o35⟩ false) .ret) .skip)) (.seq (.region 3 ⟨o34⟩ false) (.seq (.region 4 ⟨o33⟩ false) (.seq (.region 5 ⟨o32⟩ false) (.seq (.seq (.region 6 ⟨o31⟩ false) (.cond (.tmp 87) (.seq (.region 7 ⟨o30⟩ false) .ret) .skip)) (.seq (.region 8 ⟨o29⟩ false) (.seq (.region 9 ⟨o28⟩ false) (.seq (.region 10 ⟨o27⟩ false) (.seq (.seq (.region 11 ⟨o26⟩ false) (.cond (.tmp 113) (.seq (.region 12 ⟨o25⟩ false) .ret) .skip)) (.seq (.seq (.region 13 ⟨o24⟩ false) (.cond (.tmp 115) (.seq (.region 14 ⟨o23⟩ false) (.seq (.region 15 ⟨o22⟩ false) (.seq (.region 16 ⟨o21⟩ false) (.seq (.region 17 ⟨o20⟩ false) (.seq (.region 18 ⟨o19⟩ false) (.seq (.region 19 ⟨o18⟩ false) (.seq (.region 20 ⟨o17⟩ false) (.seq (.seq (.region 21 ⟨o16⟩ false) (.block 0 (.loop (.seq (.seq (.region 22 ⟨o15⟩ false) (.cond (.tmp 156) .skip (.exit 0))) (.seq (.block 1 (.region 24 ⟨o14⟩ false)) (.region 23 ⟨o13⟩ false)))))) (.seq (.region 25 ⟨o11⟩ false) (.cond (.tmp 240) (.seq (.region 26 ⟨o10⟩ false) .ret) .skip)))))))))) .skip)) (.seq (.region 27 ⟨o9⟩ false) (.seq (.region 28 ⟨o8⟩ false) (.seq (.region 29 ⟨o7⟩ false) (.seq (.region 30 ⟨o6⟩ false) (.seq (.region 31 ⟨o5⟩ false) (.seq (.region 32 ⟨o4⟩ false) (.seq (.region 33 ⟨o3⟩ false) (.seq (.region 34 ⟨o2⟩ false) (.seq (.region 35 ⟨o1⟩ false) .ret))))))))))))))))))))
theorem body : Tryz.f4.body = some code := by kernel_rfl
theorem main (P : PT) : ∀ env H, (En 315 k8 (B37 P)) env H → AW Tryz.prog T0 code env H (mkQ (ret P) (fun _ _ _ => False) (ret P)) :=
  (r_seq (rB T0_ok (q37 P)) (r_seq (r_seq (rB T0_ok (q36 P)) (r_cond rfl (r_seq (rB T0_ok (q35 P)) r_ret) r_skip)) (r_seq (rB T0_ok (q34 P)) (r_seq (rB T0_ok (q33 P)) (r_seq (rB T0_ok (q32 P)) (r_seq (r_seq (rB T0_ok (q31 P)) (r_cond rfl (r_seq (rB T0_ok (q30 P)) r_ret) r_skip)) (r_seq (rB T0_ok (q29 P)) (r_seq (rB T0_ok (q28 P)) (r_seq (rB T0_ok (q27 P)) (r_seq (r_seq (rB T0_ok (q26 P)) (r_cond rfl (r_seq (rB T0_ok (q25 P)) r_ret) r_skip)) (r_seq (r_seq (rB T0_ok (q24 P)) (r_cond rfl (r_seq (rB T0_ok (q23 P)) (r_seq (rB T0_ok (q22 P)) (r_seq (rB T0_ok (q21 P)) (r_seq (rB T0_ok (q20 P)) (r_seq (rB T0_ok (q19 P)) (r_seq (rB T0_ok (q18 P)) (r_seq (rB T0_ok (q17 P)) (r_seq (r_seq (rB T0_ok (q16 P)) (r_block (rL (l12 P) (fun N12 => (r_seq (r_seq (rB T0_ok (q15 P N12)) (r_cond rfl r_skip (r_exit (fun _ _ h => h)))) (r_seq (r_block (rB T0_ok (q14 P N12))) (rB T0_ok (q13 P N12)))))))) (r_seq (rB T0_ok (q11 P)) (r_cond rfl (r_seq (rB T0_ok (q10 P)) r_ret) r_skip)))))))))) r_skip)) (r_seq (rB T0_ok (q9 P)) (r_seq (rB T0_ok (q8 P)) (r_seq (rB T0_ok (q7 P)) (r_seq (rB T0_ok (q6 P)) (r_seq (rB T0_ok (q5 P)) (r_seq (rB T0_ok (q4 P)) (r_seq (rB T0_ok (q3 P)) (r_seq (rB T0_ok (q2 P)) (r_seq (rB T0_ok (q1 P)) r_ret))))))))))))))))))))
theorem ac (P : PT) (x0 : Value) (H : AHeap) (h : B37 P x0 H) : AC Tryz.prog T0 4 [x0] H P :=
  r_fn T0_ok (c := code) (n := 315) Tryz.func4 body (by kernel_rfl) (main P) (En_mk (x0, ()) (by kernel_rfl) ⟨by kernel_rfl, trivial⟩ h)

end F4
-- loop.example/g01329/laws.big
namespace F7
noncomputable def ret (P : PT) : EP := retE T0 6 Tryz.f7 P
abbrev k0 : Sk := [(0,.v)]
noncomputable def o1 := ob Tryz.f7 [.r,.l]
def B1 (P : PT) (x0 : Value) (H : AHeap) : Prop :=
  lenK x0 (fun n1 => P (Value.bool (decide (((n1 : Int) : Int) > 4096))) H)
theorem q1 (P : PT) : QB Tryz.prog T0 6 o1 (ret P) k0 (B1 P) := fun _ _ _  => by kernel_rfl
noncomputable def o2 := ob Tryz.f7 [.l]
def B2 (P : PT) (x0 : Value) (H : AHeap) : Prop :=
  B1 P x0 H
theorem q2 (P : PT) : QB Tryz.prog T0 6 o2 (En 6 k0 (B1 P)) k0 (B2 P) := fun _ _ _  => by kernel_rfl
noncomputable def code : Code := (.seq (.region 0 ⟨o2⟩ false) (.seq (.region 1 ⟨o1⟩ false) .ret))
theorem body : Tryz.f7.body = some code := by kernel_rfl
theorem main (P : PT) : ∀ env H, (En 6 k0 (B2 P)) env H → AW Tryz.prog T0 code env H (mkQ (ret P) (fun _ _ _ => False) (ret P)) :=
  (r_seq (rB T0_ok (q2 P)) (r_seq (rB T0_ok (q1 P)) r_ret))
theorem ac (P : PT) (x0 : Value) (H : AHeap) (h : B2 P x0 H) : AC Tryz.prog T0 7 [x0] H P :=
  r_fn T0_ok (c := code) (n := 6) Tryz.func7 body (by kernel_rfl) (main P) (En_mk (x0, ()) (by kernel_rfl) ⟨by kernel_rfl, trivial⟩ h)

end F7
-- loop.example/g01329/laws.likeInts
namespace F11
noncomputable def ret (P : PT) : EP := retE T0 26 Tryz.f11 P
abbrev k0 : Sk := []
noncomputable def o1 := ob Tryz.f11 [.r,.r,.r,.l]
def B1 (P : PT) (H : AHeap) : Prop :=
  P (Value.bool true) H
theorem q1 (P : PT) : QB Tryz.prog T0 26 o1 (ret P) k0 (B1 P) := fun _ _  => by kernel_rfl
abbrev k1 : Sk := [(0,.v),(1,.v),(5,.i .i64)]
noncomputable def o3 := ob Tryz.f11 [.r,.r,.l,.r,.l,.l,.r,.r]
def B3 (P : PT) (N2 : NTy k1 Pr) (x0 x1 : Value) (x5 : Int) (H : AHeap) : Prop :=
  N2 x0 x1 (IntKind.i64.wrap (x5 + 1)) H
theorem q3 (P : PT) (N2 : NTy k1 Pr) : QB Tryz.prog T0 26 o3 (En 26 k1 N2) k1 (B3 P N2) := fun _ _ _ _ _  => by kernel_rfl
noncomputable def o4 := ob Tryz.f11 [.r,.r,.l,.r,.l,.l,.r,.l,.l,.r,.l,.l]
def B4 (P : PT) (N2 : NTy k1 Pr) (H : AHeap) : Prop :=
  P (Value.bool false) H
theorem q4 (P : PT) (N2 : NTy k1 Pr) : QB Tryz.prog T0 26 o4 (ret P) k0 (B4 P N2) := fun _ _  => by kernel_rfl
noncomputable def o5 := ob Tryz.f11 [.r,.r,.l,.r,.l,.l,.r,.l,.l,.l]
def B5 (P : PT) (N2 : NTy k1 Pr) (x0 x1 : Value) (x5 : Int) (H : AHeap) : Prop :=
  idxK x0 x5 1 (fun b1 o2 => ldI .i64 H b1 o2 (fun v3 => idxK x1 x5 1 (fun b4 o5 => ldI .i64 H b4 o5 (fun v6 => pif ((v3 : Int) != v6) (B4 P N2 H) (B3 P N2 x0 x1 x5 H)))))
theorem q5 (P : PT) (N2 : NTy k1 Pr) : QD Tryz.prog T0 26 o5 [(0, false), (1, false), (2, false), (3, false), (4, false), (5, false), (6, false), (7, false), (8, false)] (cnd 25 (En 26 k0 (B4 P N2)) (En 26 k1 (B3 P N2))) k1 (B5 P N2) := fun _ _ _ _ _  => by kernel_rfl
noncomputable def o6 := ob Tryz.f11 [.r,.r,.l,.r,.l,.l,.l,.l]
def B6 (P : PT) (N2 : NTy k1 Pr) (x0 x1 : Value) (x5 : Int) (H : AHeap) : Prop :=
  lenK x0 (fun n1 => pif (decide ((x5 : Int) < (n1 : Int))) (B5 P N2 x0 x1 x5 H) (B1 P H))
theorem q6 (P : PT) (N2 : NTy k1 Pr) : QB Tryz.prog T0 26 o6 (cnd 14 (En 26 k1 (B5 P N2)) (En 26 k0 (B1 P))) k1 (B6 P N2) := fun _ _ _ _ _  => by kernel_rfl
def L2 (P : PT) (x0 x1 : Value) (x5 : Int) (H : AHeap) : Prop :=
  ∃ (I : NTy k1 Pr) (μ : NTy k1 (AHeap → Nat)), I x0 x1 x5 H ∧ ∀ y0 y1 y5 G, I y0 y1 y5 G → B6 P (fun z0 z1 z5 G' => I z0 z1 z5 G' ∧ μ z0 z1 z5 G' < μ y0 y1 y5 G) y0 y1 y5 G
theorem l2 (P : PT) : LQ k1 (L2 P) (B6 P) := fun ⟨_,_,_,_⟩ _ ⟨I, μ, h0, hI⟩ => ⟨apT _ I, apT _ μ, h0, fun ⟨_,_,_,_⟩ _ h => hI _ _ _ _  h⟩
abbrev k2 : Sk := [(0,.v),(1,.v)]
noncomputable def o7 := ob Tryz.f11 [.r,.r,.l,.l]
def B7 (P : PT) (x0 x1 : Value) (H : AHeap) : Prop :=
  L2 P x0 x1 0 H
theorem q7 (P : PT) : QB Tryz.prog T0 26 o7 (En 26 k1 (L2 P)) k2 (B7 P) := fun _ _ _ _  => by kernel_rfl
noncomputable def o8 := ob Tryz.f11 [.r,.l,.r,.l,.l]
def B8 (P : PT) (H : AHeap) : Prop :=
  P (Value.bool false) H
theorem q8 (P : PT) : QB Tryz.prog T0 26 o8 (ret P) k0 (B8 P) := fun _ _  => by kernel_rfl
noncomputable def o9 := ob Tryz.f11 [.r,.l,.l]
def B9 (P : PT) (x0 x1 : Value) (H : AHeap) : Prop :=
  lenK x0 (fun n1 => lenK x1 (fun n2 => pif (((n1 : Int) : Int) != (n2 : Int)) (B8 P H) (B7 P x0 x1 H)))
theorem q9 (P : PT) : QB Tryz.prog T0 26 o9 (cnd 10 (En 26 k0 (B8 P)) (En 26 k2 (B7 P))) k2 (B9 P) := fun _ _ _ _  => by kernel_rfl
noncomputable def o10 := ob Tryz.f11 [.l]
def B10 (P : PT) (x0 x1 : Value) (H : AHeap) : Prop :=
  B9 P x0 x1 H
theorem q10 (P : PT) : QB Tryz.prog T0 26 o10 (En 26 k2 (B9 P)) k2 (B10 P) := fun _ _ _ _  => by kernel_rfl
noncomputable def code : Code := (.seq (.region 0 ⟨o10⟩ false) (.seq (.seq (.region 1 ⟨o9⟩ false) (.cond (.tmp 10) (.seq (.region 2 ⟨o8⟩ false) .ret) .skip)) (.seq (.seq (.region 3 ⟨o7⟩ false) (.block 0 (.loop (.seq (.seq (.region 4 ⟨o6⟩ false) (.cond (.tmp 14) .skip (.exit 0))) (.seq (.block 1 (.seq (.region 6 ⟨o5⟩ true) (.cond (.tmp 25) (.seq (.region 7 ⟨o4⟩ false) .ret) .skip))) (.region 5 ⟨o3⟩ false)))))) (.seq (.region 8 ⟨o1⟩ false) .ret))))
theorem body : Tryz.f11.body = some code := by kernel_rfl
theorem main (P : PT) : ∀ env H, (En 26 k2 (B10 P)) env H → AW Tryz.prog T0 code env H (mkQ (ret P) (fun _ _ _ => False) (ret P)) :=
  (r_seq (rB T0_ok (q10 P)) (r_seq (r_seq (rB T0_ok (q9 P)) (r_cond rfl (r_seq (rB T0_ok (q8 P)) r_ret) r_skip)) (r_seq (r_seq (rB T0_ok (q7 P)) (r_block (rL (l2 P) (fun N2 => (r_seq (r_seq (rB T0_ok (q6 P N2)) (r_cond rfl r_skip (r_exit (fun _ _ h => h)))) (r_seq (r_block (r_seq (rD T0_ok mixed [(0, false), (1, false), (2, false), (3, false), (4, false), (5, false), (6, false), (7, false), (8, false)] (by kernel_rfl) (q5 P N2)) (r_cond rfl (r_seq (rB T0_ok (q4 P N2)) r_ret) r_skip))) (rB T0_ok (q3 P N2)))))))) (r_seq (rB T0_ok (q1 P)) r_ret))))
theorem ac (P : PT) (x0 x1 : Value) (H : AHeap) (h : B10 P x0 x1 H) : AC Tryz.prog T0 11 [x0, x1] H P :=
  r_fn T0_ok (c := code) (n := 26) Tryz.func11 body (by kernel_rfl) (main P) (En_mk (x0, x1, ()) (by kernel_rfl) ⟨by kernel_rfl, by kernel_rfl, trivial⟩ h)

end F11
-- loop.example/g01329/laws.rows5
namespace F15
noncomputable def ret (P : PT) : EP := retE T0 27 Tryz.f15 P
abbrev k0 : Sk := []
noncomputable def o1 := ob Tryz.f15 [.r,.r,.r,.l]
def B1 (P : PT) (H : AHeap) : Prop :=
  P (Value.bool true) H
theorem q1 (P : PT) : QB Tryz.prog T0 27 o1 (ret P) k0 (B1 P) := fun _ _  => by kernel_rfl
abbrev k1 : Sk := [(0,.v),(1,.v),(5,.i .i64)]
noncomputable def o3 := ob Tryz.f15 [.r,.r,.l,.r,.l,.l,.r,.r]
def B3 (P : PT) (N2 : NTy k1 Pr) (x0 x1 : Value) (x5 : Int) (H : AHeap) : Prop :=
  N2 x0 x1 (IntKind.i64.wrap (x5 + 1)) H
theorem q3 (P : PT) (N2 : NTy k1 Pr) : QB Tryz.prog T0 27 o3 (En 27 k1 N2) k1 (B3 P N2) := fun _ _ _ _ _  => by kernel_rfl
noncomputable def o4 := ob Tryz.f15 [.r,.r,.l,.r,.l,.l,.r,.l,.l,.r,.l,.l]
def B4 (P : PT) (N2 : NTy k1 Pr) (H : AHeap) : Prop :=
  P (Value.bool false) H
theorem q4 (P : PT) (N2 : NTy k1 Pr) : QB Tryz.prog T0 27 o4 (ret P) k0 (B4 P N2) := fun _ _  => by kernel_rfl
noncomputable def o5 := ob Tryz.f15 [.r,.r,.l,.r,.l,.l,.r,.l,.l,.l]
def B5 (P : PT) (N2 : NTy k1 Pr) (x0 x1 : Value) (x5 : Int) (H : AHeap) : Prop :=
  idxK x0 x5 1 (fun b1 o2 => ld1 H b1 o2 (fun v3 => idxK x1 x5 1 (fun b4 o5 => ld1 H b4 o5 (fun v6 => AC Tryz.prog T0 11 [v3, v6] H (fun v7 H8 => asB v7 (fun v9 => pif (!v9) (B4 P N2 H8) (B3 P N2 x0 x1 x5 H8)))))))
theorem q5 (P : PT) (N2 : NTy k1 Pr) : QD Tryz.prog T0 27 o5 [(0, false), (1, false), (2, false), (3, false), (4, false), (5, false), (6, false), (7, false), (8, false), (9, false)] (cnd 26 (En 27 k0 (B4 P N2)) (En 27 k1 (B3 P N2))) k1 (B5 P N2) := fun _ _ _ _ _  => by kernel_rfl
noncomputable def o6 := ob Tryz.f15 [.r,.r,.l,.r,.l,.l,.l,.l]
def B6 (P : PT) (N2 : NTy k1 Pr) (x0 x1 : Value) (x5 : Int) (H : AHeap) : Prop :=
  lenK x0 (fun n1 => pif (decide ((x5 : Int) < (n1 : Int))) (B5 P N2 x0 x1 x5 H) (B1 P H))
theorem q6 (P : PT) (N2 : NTy k1 Pr) : QB Tryz.prog T0 27 o6 (cnd 14 (En 27 k1 (B5 P N2)) (En 27 k0 (B1 P))) k1 (B6 P N2) := fun _ _ _ _ _  => by kernel_rfl
def L2 (P : PT) (x0 x1 : Value) (x5 : Int) (H : AHeap) : Prop :=
  ∃ (I : NTy k1 Pr) (μ : NTy k1 (AHeap → Nat)), I x0 x1 x5 H ∧ ∀ y0 y1 y5 G, I y0 y1 y5 G → B6 P (fun z0 z1 z5 G' => I z0 z1 z5 G' ∧ μ z0 z1 z5 G' < μ y0 y1 y5 G) y0 y1 y5 G
theorem l2 (P : PT) : LQ k1 (L2 P) (B6 P) := fun ⟨_,_,_,_⟩ _ ⟨I, μ, h0, hI⟩ => ⟨apT _ I, apT _ μ, h0, fun ⟨_,_,_,_⟩ _ h => hI _ _ _ _  h⟩
abbrev k2 : Sk := [(0,.v),(1,.v)]
noncomputable def o7 := ob Tryz.f15 [.r,.r,.l,.l]
def B7 (P : PT) (x0 x1 : Value) (H : AHeap) : Prop :=
  L2 P x0 x1 0 H
theorem q7 (P : PT) : QB Tryz.prog T0 27 o7 (En 27 k1 (L2 P)) k2 (B7 P) := fun _ _ _ _  => by kernel_rfl
noncomputable def o8 := ob Tryz.f15 [.r,.l,.r,.l,.l]
def B8 (P : PT) (H : AHeap) : Prop :=
  P (Value.bool false) H
theorem q8 (P : PT) : QB Tryz.prog T0 27 o8 (ret P) k0 (B8 P) := fun _ _  => by kernel_rfl
noncomputable def o9 := ob Tryz.f15 [.r,.l,.l]
def B9 (P : PT) (x0 x1 : Value) (H : AHeap) : Prop :=
  lenK x0 (fun n1 => lenK x1 (fun n2 => pif (((n1 : Int) : Int) != (n2 : Int)) (B8 P H) (B7 P x0 x1 H)))
theorem q9 (P : PT) : QB Tryz.prog T0 27 o9 (cnd 10 (En 27 k0 (B8 P)) (En 27 k2 (B7 P))) k2 (B9 P) := fun _ _ _ _  => by kernel_rfl
noncomputable def o10 := ob Tryz.f15 [.l]
def B10 (P : PT) (x0 x1 : Value) (H : AHeap) : Prop :=
  B9 P x0 x1 H
theorem q10 (P : PT) : QB Tryz.prog T0 27 o10 (En 27 k2 (B9 P)) k2 (B10 P) := fun _ _ _ _  => by kernel_rfl
noncomputable def code : Code := (.seq (.region 0 ⟨o10⟩ false) (.seq (.seq (.region 1 ⟨o9⟩ false) (.cond (.tmp 10) (.seq (.region 2 ⟨o8⟩ false) .ret) .skip)) (.seq (.seq (.region 3 ⟨o7⟩ false) (.block 0 (.loop (.seq (.seq (.region 4 ⟨o6⟩ false) (.cond (.tmp 14) .skip (.exit 0))) (.seq (.block 1 (.seq (.region 6 ⟨o5⟩ true) (.cond (.tmp 26) (.seq (.region 7 ⟨o4⟩ false) .ret) .skip))) (.region 5 ⟨o3⟩ false)))))) (.seq (.region 8 ⟨o1⟩ false) .ret))))
theorem body : Tryz.f15.body = some code := by kernel_rfl
theorem main (P : PT) : ∀ env H, (En 27 k2 (B10 P)) env H → AW Tryz.prog T0 code env H (mkQ (ret P) (fun _ _ _ => False) (ret P)) :=
  (r_seq (rB T0_ok (q10 P)) (r_seq (r_seq (rB T0_ok (q9 P)) (r_cond rfl (r_seq (rB T0_ok (q8 P)) r_ret) r_skip)) (r_seq (r_seq (rB T0_ok (q7 P)) (r_block (rL (l2 P) (fun N2 => (r_seq (r_seq (rB T0_ok (q6 P N2)) (r_cond rfl r_skip (r_exit (fun _ _ h => h)))) (r_seq (r_block (r_seq (rD T0_ok mixed [(0, false), (1, false), (2, false), (3, false), (4, false), (5, false), (6, false), (7, false), (8, false), (9, false)] (by kernel_rfl) (q5 P N2)) (r_cond rfl (r_seq (rB T0_ok (q4 P N2)) r_ret) r_skip))) (rB T0_ok (q3 P N2)))))))) (r_seq (rB T0_ok (q1 P)) r_ret))))
theorem ac (P : PT) (x0 x1 : Value) (H : AHeap) (h : B10 P x0 x1 H) : AC Tryz.prog T0 15 [x0, x1] H P :=
  r_fn T0_ok (c := code) (n := 27) Tryz.func15 body (by kernel_rfl) (main P) (En_mk (x0, x1, ()) (by kernel_rfl) ⟨by kernel_rfl, by kernel_rfl, trivial⟩ h)

end F15
-- loop.example/g01329/impl.IsBond
namespace F16
noncomputable def ret (P : PT) : EP := retE T0 17 Tryz.f16 P
abbrev k0 : Sk := [(1,.v),(2,.x)]
noncomputable def o1 := ob Tryz.f16 [.r,.r,.l]
def B1 (P : PT) (x1 : Value) (x2 : Nat) (H : AHeap) : Prop :=
  ldI .i64 H x2 0 (fun v1 => ld1 H x2 1 (fun v2 => AC Tryz.prog T0 89 [x1] H (fun v3 H4 => asI .u64 v3 (fun v5 => (AHeap.le H H4) ∧ (AC Tryz.prog T0 80 [(Value.agg ⟨[(Value.int .i64 v1), v2]⟩), (Value.int .u64 v5)] H4 (fun v6 H7 => asB v6 (fun v8 => P (Value.tuple ⟨[(Value.bool v8), (Value.int .i64 0)]⟩) H7)))))))
theorem q1 (P : PT) : QD Tryz.prog T0 17 o1 [(0, false), (1, false), (2, true), (3, false), (4, false), (5, false)] (ret P) k0 (B1 P) := fun _ _ _ _  => by kernel_rfl
abbrev k1 : Sk := [(6,.i .i64)]
noncomputable def o2 := ob Tryz.f16 [.r,.l,.r,.r,.l,.l]
def B2 (P : PT) (x6 : Int) (H : AHeap) : Prop :=
  P (Value.tuple ⟨[(Value.bool false), (Value.int .i64 x6)]⟩) H
theorem q2 (P : PT) : QB Tryz.prog T0 17 o2 (ret P) k1 (B2 P) := fun _ _ _  => by kernel_rfl
abbrev k2 : Sk := [(1,.v),(2,.x),(6,.i .i64)]
noncomputable def o3 := ob Tryz.f16 [.r,.l,.r,.l]
def B3 (P : PT) (x1 : Value) (x2 : Nat) (x6 : Int) (H : AHeap) : Prop :=
  pif ((x6 : Int) != 0) (B2 P x6 H) (B1 P x1 x2 H)
theorem q3 (P : PT) : QB Tryz.prog T0 17 o3 (cnd 11 (En 17 k1 (B2 P)) (En 17 k0 (B1 P))) k2 (B3 P) := fun _ _ _ _ _  => by kernel_rfl
noncomputable def o4 := ob Tryz.f16 [.r,.l,.l]
def B4 (P : PT) (x1 : Value) (x2 : Nat) (H : AHeap) : Prop :=
  ldI .i64 H x2 0 (fun v1 => ld1 H x2 1 (fun v2 => AC Tryz.prog T0 88 [(Value.agg ⟨[(Value.int .i64 v1), v2]⟩), x1] H (fun v3 H4 => asI .i64 v3 (fun v5 => B3 P x1 x2 v5 H4))))
theorem q4 (P : PT) : QB Tryz.prog T0 17 o4 (En 17 k2 (B3 P)) k0 (B4 P) := fun _ _ _ _  => by kernel_rfl
abbrev k3 : Sk := [(0,.g [.i,.v]),(1,.v)]
noncomputable def o5 := ob Tryz.f16 [.l]
def B5 (P : PT) (x0a : Int) (x0b x1 : Value) (H : AHeap) : Prop :=
  newK H [(Value.int .i64 x0a), x0b] 26 (fun b1 H2 => B4 P x1 b1 H2)
theorem q5 (P : PT) : QB Tryz.prog T0 17 o5 (En 17 k0 (B4 P)) k3 (B5 P) := fun _ _ _ _ _  => by kernel_rfl
noncomputable def code : Code := (.seq (.region 0 ⟨o5⟩ false) (.seq (.seq (.region 1 ⟨o4⟩ false) (.seq (.region 2 ⟨o3⟩ false) (.cond (.tmp 11) (.seq (.region 3 ⟨o2⟩ false) .ret) .skip))) (.seq (.region 4 ⟨o1⟩ true) .ret)))
theorem body : Tryz.f16.body = some code := by kernel_rfl
theorem main (P : PT) : ∀ env H, (En 17 k3 (B5 P)) env H → AW Tryz.prog T0 code env H (mkQ (ret P) (fun _ _ _ => False) (ret P)) :=
  (r_seq (rB T0_ok (q5 P)) (r_seq (r_seq (rB T0_ok (q4 P)) (r_seq (rB T0_ok (q3 P)) (r_cond rfl (r_seq (rB T0_ok (q2 P)) r_ret) r_skip))) (r_seq (rD T0_ok mixed [(0, false), (1, false), (2, true), (3, false), (4, false), (5, false)] (by kernel_rfl) (q1 P)) r_ret)))
theorem ac (P : PT) (x0a : Int) (x0b x1 : Value) (H : AHeap) (h : B5 P x0a x0b x1 H) : AC Tryz.prog T0 16 [(Value.agg ⟨[(Value.int .i64 x0a), x0b]⟩), x1] H P :=
  r_fn T0_ok (c := code) (n := 17) Tryz.func16 body (by kernel_rfl) (main P) (En_mk (x0a, x0b, x1, ()) (by kernel_rfl) ⟨by kernel_rfl, by kernel_rfl, trivial⟩ h)

end F16
-- loop.example/g01329/spec.DrawEdgesLeaving
namespace F23
noncomputable def ret (P : PT) : EP := retE T0 25 Tryz.f23 P
abbrev k0 : Sk := [(2,.x),(4,.v),(5,.x),(6,.v)]
noncomputable def o1 := ob Tryz.f23 [.r,.r,.r,.r,.l]
def B1 (P : PT) (x2 : Nat) (x4 : Value) (x5 : Nat) (x6 : Value) (H : AHeap) : Prop :=
  ldI .i64 H x5 0 (fun v1 => ld1 H x5 1 (fun v2 => AC Tryz.prog T0 68 [x4, (Value.agg ⟨[(Value.int .i64 v1), v2]⟩)] H (fun v3 H4 => agg2 v3 (fun v5 v6 => asI .i64 v5 (fun v7 => stK H4 x2 0 [(Value.int .i64 v7), v6] (fun H9 => ldI .i64 H9 x2 0 (fun v10 => ld1 H9 x2 1 (fun v11 => P (Value.tuple ⟨[(Value.agg ⟨[(Value.int .i64 v10), v11]⟩), x6]⟩) H9))))))))
theorem q1 (P : PT) : QB Tryz.prog T0 25 o1 (ret P) k0 (B1 P) := fun _ _ _ _ _ _  => by kernel_rfl
abbrev k1 : Sk := [(2,.x),(4,.v),(5,.x)]
noncomputable def o2 := ob Tryz.f23 [.r,.r,.r,.l]
def B2 (P : PT) (x2 : Nat) (x4 : Value) (x5 : Nat) (H : AHeap) : Prop :=
  ldI .i64 H x5 0 (fun v1 => ldI .i64 H x5 0 (fun v2 => newK H [(Value.int .i64 2), (Value.int .i64 (IntKind.i64.wrap (Int.tdiv v2 2)))] 2 (fun b3 H4 => AC Tryz.prog T0 83 [x4, (Value.slice (some ⟨b3, 0, none⟩) 2 (2 + 1))] H4 (fun v5 H6 => asI .i64 v5 (fun v7 => (ldI .i64 H6 x5 0 (fun v8 => ((Value.int .i64 v8) = (Value.int .i64 v1)) ∧ (H6 = H6))) ∧ (AC Tryz.prog T0 97 [x4, (Value.int .i64 v1), (Value.int .i64 v7)] H6 (fun v9 H10 => B1 P x2 x4 x5 v9 H10)))))))
theorem q2 (P : PT) : QT Tryz.prog T0 25 o2 (.op 0 [] (.op 1 [] (.op 2 [] (.op 3 [] (.op 4 [] (.op 5 [] (.op 6 [] (.op 7 [] (.op 8 [2] (.op 9 [] (.op 10 [] .done))))))))))) (En 25 k0 (B1 P)) k1 (B2 P) := fun _ _ _ _ _  => by kernel_rfl
abbrev k2 : Sk := [(2,.x),(4,.v)]
noncomputable def o3 := ob Tryz.f23 [.r,.r,.l]
def B3 (P : PT) (x2 : Nat) (x4 : Value) (H : AHeap) : Prop :=
  AC Tryz.prog T0 96 [x4] H (fun v1 H2 => agg2 v1 (fun v3 v4 => asI .i64 v3 (fun v5 => newK H2 [(Value.int .i64 0), (Value.slice none 0 0)] 26 (fun b7 H8 => stK H8 b7 0 [(Value.int .i64 v5), v4] (fun H9 => B2 P x2 x4 b7 H9)))))
theorem q3 (P : PT) : QB Tryz.prog T0 25 o3 (En 25 k1 (B2 P)) k2 (B3 P) := fun _ _ _ _  => by kernel_rfl
abbrev k3 : Sk := [(0,.v),(2,.x)]
noncomputable def o4 := ob Tryz.f23 [.r,.l]
def B4 (P : PT) (x0 : Value) (x2 : Nat) (H : AHeap) : Prop :=
  AC Tryz.prog T0 65 [x0] H (fun v1 H2 => B3 P x2 v1 H2)
theorem q4 (P : PT) : QB Tryz.prog T0 25 o4 (En 25 k2 (B3 P)) k3 (B4 P) := fun _ _ _ _  => by kernel_rfl
abbrev k4 : Sk := [(0,.v)]
noncomputable def o5 := ob Tryz.f23 [.l]
def B5 (P : PT) (x0 : Value) (H : AHeap) : Prop :=
  newK H [(Value.int .i64 0), (Value.slice none 0 0)] 26 (fun b1 H2 => B4 P x0 b1 H2)
theorem q5 (P : PT) : QB Tryz.prog T0 25 o5 (En 25 k3 (B4 P)) k4 (B5 P) := fun _ _ _  => by kernel_rfl
noncomputable def code : Code := (.seq (.region 0 ⟨o5⟩ false) (.seq (.region 1 ⟨o4⟩ false) (.seq (.region 2 ⟨o3⟩ false) (.seq (.region 3 ⟨o2⟩ true) (.seq (.region 4 ⟨o1⟩ false) .ret)))))
theorem body : Tryz.f23.body = some code := by kernel_rfl
theorem main (P : PT) : ∀ env H, (En 25 k4 (B5 P)) env H → AW Tryz.prog T0 code env H (mkQ (ret P) (fun _ _ _ => False) (ret P)) :=
  (r_seq (rB T0_ok (q5 P)) (r_seq (rB T0_ok (q4 P)) (r_seq (rB T0_ok (q3 P)) (r_seq (rT T0_ok mixed (.op 0 [] (.op 1 [] (.op 2 [] (.op 3 [] (.op 4 [] (.op 5 [] (.op 6 [] (.op 7 [] (.op 8 [2] (.op 9 [] (.op 10 [] .done))))))))))) (by kernel_rfl) (q2 P)) (r_seq (rB T0_ok (q1 P)) r_ret)))))
theorem ac (P : PT) (x0 : Value) (H : AHeap) (h : B5 P x0 H) : AC Tryz.prog T0 23 [x0] H P :=
  r_fn T0_ok (c := code) (n := 25) Tryz.func23 body (by kernel_rfl) (main P) (En_mk (x0, ()) (by kernel_rfl) ⟨by kernel_rfl, trivial⟩ h)

end F23
-- loop.example/g01329/impl.EdgesLeaving
namespace F24
noncomputable def ret (P : PT) : EP := retE T0 20 Tryz.f24 P
abbrev k0 : Sk := [(1,.v),(2,.x)]
noncomputable def o1 := ob Tryz.f24 [.r,.r,.l]
def B1 (P : PT) (x1 : Value) (x2 : Nat) (H : AHeap) : Prop :=
  ldI .i64 H x2 0 (fun v1 => ld1 H x2 1 (fun v2 => AC Tryz.prog T0 89 [x1] H (fun v3 H4 => asI .u64 v3 (fun v5 => (AHeap.le H H4) ∧ (AC Tryz.prog T0 99 [(Value.agg ⟨[(Value.int .i64 v1), v2]⟩), (Value.int .u64 v5)] H4 (fun v6 H7 => P (Value.tuple ⟨[v6, (Value.int .i64 0)]⟩) H7))))))
theorem q1 (P : PT) : QD Tryz.prog T0 20 o1 [(0, false), (1, false), (2, true), (3, false), (4, false), (5, false)] (ret P) k0 (B1 P) := fun _ _ _ _  => by kernel_rfl
abbrev k1 : Sk := [(6,.i .i64)]
noncomputable def o2 := ob Tryz.f24 [.r,.l,.r,.r,.l,.l]
def B2 (P : PT) (x6 : Int) (H : AHeap) : Prop :=
  P (Value.tuple ⟨[(Value.slice none 0 0), (Value.int .i64 x6)]⟩) H
theorem q2 (P : PT) : QB Tryz.prog T0 20 o2 (ret P) k1 (B2 P) := fun _ _ _  => by kernel_rfl
abbrev k2 : Sk := [(1,.v),(2,.x),(6,.i .i64)]
noncomputable def o3 := ob Tryz.f24 [.r,.l,.r,.l]
def B3 (P : PT) (x1 : Value) (x2 : Nat) (x6 : Int) (H : AHeap) : Prop :=
  pif ((x6 : Int) != 0) (B2 P x6 H) (B1 P x1 x2 H)
theorem q3 (P : PT) : QB Tryz.prog T0 20 o3 (cnd 14 (En 20 k1 (B2 P)) (En 20 k0 (B1 P))) k2 (B3 P) := fun _ _ _ _ _  => by kernel_rfl
noncomputable def o4 := ob Tryz.f24 [.r,.l,.l]
def B4 (P : PT) (x1 : Value) (x2 : Nat) (H : AHeap) : Prop :=
  ldI .i64 H x2 0 (fun v1 => ld1 H x2 1 (fun v2 => ldI .i64 H x2 0 (fun v3 => AC Tryz.prog T0 98 [x1, (Value.int .i64 v3)] H (fun v4 H5 => asB v4 (fun v6 => (AHeap.le H H5) ∧ (AC Tryz.prog T0 72 [(Value.agg ⟨[(Value.int .i64 v1), v2]⟩), (Value.bool v6)] H5 (fun v7 H8 => asI .i64 v7 (fun v9 => B3 P x1 x2 v9 H8))))))))
theorem q4 (P : PT) : QD Tryz.prog T0 20 o4 [(0, false), (1, false), (2, false), (3, false), (4, true), (5, false), (6, false)] (En 20 k2 (B3 P)) k0 (B4 P) := fun _ _ _ _  => by kernel_rfl
abbrev k3 : Sk := [(0,.g [.i,.v]),(1,.v)]
noncomputable def o5 := ob Tryz.f24 [.l]
def B5 (P : PT) (x0a : Int) (x0b x1 : Value) (H : AHeap) : Prop :=
  newK H [(Value.int .i64 x0a), x0b] 26 (fun b1 H2 => B4 P x1 b1 H2)
theorem q5 (P : PT) : QB Tryz.prog T0 20 o5 (En 20 k0 (B4 P)) k3 (B5 P) := fun _ _ _ _ _  => by kernel_rfl
noncomputable def code : Code := (.seq (.region 0 ⟨o5⟩ false) (.seq (.seq (.region 1 ⟨o4⟩ true) (.seq (.region 2 ⟨o3⟩ false) (.cond (.tmp 14) (.seq (.region 3 ⟨o2⟩ false) .ret) .skip))) (.seq (.region 4 ⟨o1⟩ true) .ret)))
theorem body : Tryz.f24.body = some code := by kernel_rfl
theorem main (P : PT) : ∀ env H, (En 20 k3 (B5 P)) env H → AW Tryz.prog T0 code env H (mkQ (ret P) (fun _ _ _ => False) (ret P)) :=
  (r_seq (rB T0_ok (q5 P)) (r_seq (r_seq (rD T0_ok mixed [(0, false), (1, false), (2, false), (3, false), (4, true), (5, false), (6, false)] (by kernel_rfl) (q4 P)) (r_seq (rB T0_ok (q3 P)) (r_cond rfl (r_seq (rB T0_ok (q2 P)) r_ret) r_skip))) (r_seq (rD T0_ok mixed [(0, false), (1, false), (2, true), (3, false), (4, false), (5, false)] (by kernel_rfl) (q1 P)) r_ret)))
theorem ac (P : PT) (x0a : Int) (x0b x1 : Value) (H : AHeap) (h : B5 P x0a x0b x1 H) : AC Tryz.prog T0 24 [(Value.agg ⟨[(Value.int .i64 x0a), x0b]⟩), x1] H P :=
  r_fn T0_ok (c := code) (n := 20) Tryz.func24 body (by kernel_rfl) (main P) (En_mk (x0a, x0b, x1, ()) (by kernel_rfl) ⟨by kernel_rfl, by kernel_rfl, trivial⟩ h)

end F24
-- loop.example/g01329/spec.EdgesLeaving
namespace F25
noncomputable def ret (P : PT) : EP := retE T0 20 Tryz.f25 P
abbrev k0 : Sk := [(1,.v),(2,.x)]
noncomputable def o1 := ob Tryz.f25 [.r,.r,.r,.l]
def B1 (P : PT) (x1 : Value) (x2 : Nat) (H : AHeap) : Prop :=
  ldI .i64 H x2 0 (fun v1 => ld1 H x2 1 (fun v2 => AC Tryz.prog T0 101 [(Value.agg ⟨[(Value.int .i64 v1), v2]⟩), x1] H (fun v3 H4 => P (Value.tuple ⟨[v3, (Value.int .i64 0)]⟩) H4)))
theorem q1 (P : PT) : QB Tryz.prog T0 20 o1 (ret P) k0 (B1 P) := fun _ _ _ _  => by kernel_rfl
abbrev k1 : Sk := [(6,.i .i64)]
noncomputable def o2 := ob Tryz.f25 [.r,.r,.l,.r,.r,.l,.l]
def B2 (P : PT) (x6 : Int) (H : AHeap) : Prop :=
  P (Value.tuple ⟨[(Value.slice none 0 0), (Value.int .i64 x6)]⟩) H
theorem q2 (P : PT) : QB Tryz.prog T0 20 o2 (ret P) k1 (B2 P) := fun _ _ _  => by kernel_rfl
abbrev k2 : Sk := [(1,.v),(2,.x),(6,.i .i64)]
noncomputable def o3 := ob Tryz.f25 [.r,.r,.l,.r,.l]
def B3 (P : PT) (x1 : Value) (x2 : Nat) (x6 : Int) (H : AHeap) : Prop :=
  pif ((x6 : Int) != 0) (B2 P x6 H) (B1 P x1 x2 H)
theorem q3 (P : PT) : QB Tryz.prog T0 20 o3 (cnd 15 (En 20 k1 (B2 P)) (En 20 k0 (B1 P))) k2 (B3 P) := fun _ _ _ _ _  => by kernel_rfl
noncomputable def o4 := ob Tryz.f25 [.r,.r,.l,.l]
def B4 (P : PT) (x1 : Value) (x2 : Nat) (H : AHeap) : Prop :=
  ldI .i64 H x2 0 (fun v1 => AC Tryz.prog T0 100 [x1, (Value.int .i64 v1)] H (fun v2 H3 => asI .i64 v2 (fun v4 => B3 P x1 x2 v4 H3)))
theorem q4 (P : PT) : QB Tryz.prog T0 20 o4 (En 20 k2 (B3 P)) k0 (B4 P) := fun _ _ _ _  => by kernel_rfl
abbrev k3 : Sk := []
noncomputable def o5 := ob Tryz.f25 [.r,.l,.r,.l,.l]
def B5 (P : PT) (H : AHeap) : Prop :=
  P (Value.tuple ⟨[(Value.slice none 0 0), (Value.int .i64 1)]⟩) H
theorem q5 (P : PT) : QB Tryz.prog T0 20 o5 (ret P) k3 (B5 P) := fun _ _  => by kernel_rfl
noncomputable def o6 := ob Tryz.f25 [.r,.l,.l]
def B6 (P : PT) (x1 : Value) (x2 : Nat) (H : AHeap) : Prop :=
  ldI .i64 H x2 0 (fun v1 => ld1 H x2 1 (fun v2 => AC Tryz.prog T0 75 [(Value.agg ⟨[(Value.int .i64 v1), v2]⟩)] H (fun v3 H4 => asB v3 (fun v5 => pif (!v5) (B5 P H4) (B4 P x1 x2 H4)))))
theorem q6 (P : PT) : QB Tryz.prog T0 20 o6 (cnd 9 (En 20 k3 (B5 P)) (En 20 k0 (B4 P))) k0 (B6 P) := fun _ _ _ _  => by kernel_rfl
abbrev k4 : Sk := [(0,.g [.i,.v]),(1,.v)]
noncomputable def o7 := ob Tryz.f25 [.l]
def B7 (P : PT) (x0a : Int) (x0b x1 : Value) (H : AHeap) : Prop :=
  newK H [(Value.int .i64 x0a), x0b] 26 (fun b1 H2 => B6 P x1 b1 H2)
theorem q7 (P : PT) : QB Tryz.prog T0 20 o7 (En 20 k0 (B6 P)) k4 (B7 P) := fun _ _ _ _ _  => by kernel_rfl
noncomputable def code : Code := (.seq (.region 0 ⟨o7⟩ false) (.seq (.seq (.region 1 ⟨o6⟩ false) (.cond (.tmp 9) (.seq (.region 2 ⟨o5⟩ false) .ret) .skip)) (.seq (.seq (.region 3 ⟨o4⟩ false) (.seq (.region 4 ⟨o3⟩ false) (.cond (.tmp 15) (.seq (.region 5 ⟨o2⟩ false) .ret) .skip))) (.seq (.region 6 ⟨o1⟩ false) .ret))))
theorem body : Tryz.f25.body = some code := by kernel_rfl
theorem main (P : PT) : ∀ env H, (En 20 k4 (B7 P)) env H → AW Tryz.prog T0 code env H (mkQ (ret P) (fun _ _ _ => False) (ret P)) :=
  (r_seq (rB T0_ok (q7 P)) (r_seq (r_seq (rB T0_ok (q6 P)) (r_cond rfl (r_seq (rB T0_ok (q5 P)) r_ret) r_skip)) (r_seq (r_seq (rB T0_ok (q4 P)) (r_seq (rB T0_ok (q3 P)) (r_cond rfl (r_seq (rB T0_ok (q2 P)) r_ret) r_skip))) (r_seq (rB T0_ok (q1 P)) r_ret))))
theorem ac (P : PT) (x0a : Int) (x0b x1 : Value) (H : AHeap) (h : B7 P x0a x0b x1 H) : AC Tryz.prog T0 25 [(Value.agg ⟨[(Value.int .i64 x0a), x0b]⟩), x1] H P :=
  r_fn T0_ok (c := code) (n := 20) Tryz.func25 body (by kernel_rfl) (main P) (En_mk (x0a, x0b, x1, ()) (by kernel_rfl) ⟨by kernel_rfl, by kernel_rfl, trivial⟩ h)

end F25
-- loop.example/g01329/spec.DrawSidesOf
namespace F26
noncomputable def ret (P : PT) : EP := retE T0 13 Tryz.f26 P
abbrev k0 : Sk := [(2,.x),(4,.x),(5,.v)]
noncomputable def o1 := ob Tryz.f26 [.r,.r,.l]
def B1 (P : PT) (x2 x4 : Nat) (x5 : Value) (H : AHeap) : Prop :=
  ldI .i64 H x4 0 (fun v1 => ld1 H x4 1 (fun v2 => stK H x2 0 [(Value.int .i64 v1), v2] (fun H3 => ldI .i64 H3 x2 0 (fun v4 => ld1 H3 x2 1 (fun v5 => P (Value.tuple ⟨[(Value.agg ⟨[(Value.int .i64 v4), v5]⟩), x5]⟩) H3)))))
theorem q1 (P : PT) : QB Tryz.prog T0 13 o1 (ret P) k0 (B1 P) := fun _ _ _ _ _  => by kernel_rfl
abbrev k1 : Sk := [(0,.v),(2,.x)]
noncomputable def o2 := ob Tryz.f26 [.r,.l]
def B2 (P : PT) (x0 : Value) (x2 : Nat) (H : AHeap) : Prop :=
  AC Tryz.prog T0 102 [x0] H (fun v1 H2 => tup2 v1 (fun v3 v4 => agg2 v3 (fun v5 v6 => asI .i64 v5 (fun v7 => newK H2 [(Value.int .i64 0), (Value.slice none 0 0)] 26 (fun b10 H11 => stK H11 b10 0 [(Value.int .i64 v7), v6] (fun H12 => B1 P x2 b10 v4 H12))))))
theorem q2 (P : PT) : QB Tryz.prog T0 13 o2 (En 13 k0 (B1 P)) k1 (B2 P) := fun _ _ _ _  => by kernel_rfl
abbrev k2 : Sk := [(0,.v)]
noncomputable def o3 := ob Tryz.f26 [.l]
def B3 (P : PT) (x0 : Value) (H : AHeap) : Prop :=
  newK H [(Value.int .i64 0), (Value.slice none 0 0)] 26 (fun b1 H2 => B2 P x0 b1 H2)
theorem q3 (P : PT) : QB Tryz.prog T0 13 o3 (En 13 k1 (B2 P)) k2 (B3 P) := fun _ _ _  => by kernel_rfl
noncomputable def code : Code := (.seq (.region 0 ⟨o3⟩ false) (.seq (.region 1 ⟨o2⟩ false) (.seq (.region 2 ⟨o1⟩ false) .ret)))
theorem body : Tryz.f26.body = some code := by kernel_rfl
theorem main (P : PT) : ∀ env H, (En 13 k2 (B3 P)) env H → AW Tryz.prog T0 code env H (mkQ (ret P) (fun _ _ _ => False) (ret P)) :=
  (r_seq (rB T0_ok (q3 P)) (r_seq (rB T0_ok (q2 P)) (r_seq (rB T0_ok (q1 P)) r_ret)))
theorem ac (P : PT) (x0 : Value) (H : AHeap) (h : B3 P x0 H) : AC Tryz.prog T0 26 [x0] H P :=
  r_fn T0_ok (c := code) (n := 13) Tryz.func26 body (by kernel_rfl) (main P) (En_mk (x0, ()) (by kernel_rfl) ⟨by kernel_rfl, trivial⟩ h)

end F26
-- loop.example/g01329/impl.SidesOf
namespace F27
noncomputable def ret (P : PT) : EP := retE T0 17 Tryz.f27 P
abbrev k0 : Sk := [(1,.v),(2,.x)]
noncomputable def o1 := ob Tryz.f27 [.r,.r,.l]
def B1 (P : PT) (x1 : Value) (x2 : Nat) (H : AHeap) : Prop :=
  ldI .i64 H x2 0 (fun v1 => ld1 H x2 1 (fun v2 => AC Tryz.prog T0 89 [x1] H (fun v3 H4 => asI .u64 v3 (fun v5 => (AHeap.le H H4) ∧ (AC Tryz.prog T0 103 [(Value.agg ⟨[(Value.int .i64 v1), v2]⟩), (Value.int .u64 v5)] H4 (fun v6 H7 => P (Value.tuple ⟨[v6, (Value.int .i64 0)]⟩) H7))))))
theorem q1 (P : PT) : QD Tryz.prog T0 17 o1 [(0, false), (1, false), (2, true), (3, false), (4, false), (5, false)] (ret P) k0 (B1 P) := fun _ _ _ _  => by kernel_rfl
abbrev k1 : Sk := [(6,.i .i64)]
noncomputable def o2 := ob Tryz.f27 [.r,.l,.r,.r,.l,.l]
def B2 (P : PT) (x6 : Int) (H : AHeap) : Prop :=
  P (Value.tuple ⟨[(Value.slice none 0 0), (Value.int .i64 x6)]⟩) H
theorem q2 (P : PT) : QB Tryz.prog T0 17 o2 (ret P) k1 (B2 P) := fun _ _ _  => by kernel_rfl
abbrev k2 : Sk := [(1,.v),(2,.x),(6,.i .i64)]
noncomputable def o3 := ob Tryz.f27 [.r,.l,.r,.l]
def B3 (P : PT) (x1 : Value) (x2 : Nat) (x6 : Int) (H : AHeap) : Prop :=
  pif ((x6 : Int) != 0) (B2 P x6 H) (B1 P x1 x2 H)
theorem q3 (P : PT) : QB Tryz.prog T0 17 o3 (cnd 11 (En 17 k1 (B2 P)) (En 17 k0 (B1 P))) k2 (B3 P) := fun _ _ _ _ _  => by kernel_rfl
noncomputable def o4 := ob Tryz.f27 [.r,.l,.l]
def B4 (P : PT) (x1 : Value) (x2 : Nat) (H : AHeap) : Prop :=
  ldI .i64 H x2 0 (fun v1 => ld1 H x2 1 (fun v2 => AC Tryz.prog T0 88 [(Value.agg ⟨[(Value.int .i64 v1), v2]⟩), x1] H (fun v3 H4 => asI .i64 v3 (fun v5 => B3 P x1 x2 v5 H4))))
theorem q4 (P : PT) : QB Tryz.prog T0 17 o4 (En 17 k2 (B3 P)) k0 (B4 P) := fun _ _ _ _  => by kernel_rfl
abbrev k3 : Sk := [(0,.g [.i,.v]),(1,.v)]
noncomputable def o5 := ob Tryz.f27 [.l]
def B5 (P : PT) (x0a : Int) (x0b x1 : Value) (H : AHeap) : Prop :=
  newK H [(Value.int .i64 x0a), x0b] 26 (fun b1 H2 => B4 P x1 b1 H2)
theorem q5 (P : PT) : QB Tryz.prog T0 17 o5 (En 17 k0 (B4 P)) k3 (B5 P) := fun _ _ _ _ _  => by kernel_rfl
noncomputable def code : Code := (.seq (.region 0 ⟨o5⟩ false) (.seq (.seq (.region 1 ⟨o4⟩ false) (.seq (.region 2 ⟨o3⟩ false) (.cond (.tmp 11) (.seq (.region 3 ⟨o2⟩ false) .ret) .skip))) (.seq (.region 4 ⟨o1⟩ true) .ret)))
theorem body : Tryz.f27.body = some code := by kernel_rfl
theorem main (P : PT) : ∀ env H, (En 17 k3 (B5 P)) env H → AW Tryz.prog T0 code env H (mkQ (ret P) (fun _ _ _ => False) (ret P)) :=
  (r_seq (rB T0_ok (q5 P)) (r_seq (r_seq (rB T0_ok (q4 P)) (r_seq (rB T0_ok (q3 P)) (r_cond rfl (r_seq (rB T0_ok (q2 P)) r_ret) r_skip))) (r_seq (rD T0_ok mixed [(0, false), (1, false), (2, true), (3, false), (4, false), (5, false)] (by kernel_rfl) (q1 P)) r_ret)))
theorem ac (P : PT) (x0a : Int) (x0b x1 : Value) (H : AHeap) (h : B5 P x0a x0b x1 H) : AC Tryz.prog T0 27 [(Value.agg ⟨[(Value.int .i64 x0a), x0b]⟩), x1] H P :=
  r_fn T0_ok (c := code) (n := 17) Tryz.func27 body (by kernel_rfl) (main P) (En_mk (x0a, x0b, x1, ()) (by kernel_rfl) ⟨by kernel_rfl, by kernel_rfl, trivial⟩ h)

end F27
-- loop.example/g01329/spec.SidesOf
namespace F28
noncomputable def ret (P : PT) : EP := retE T0 60 Tryz.f28 P
abbrev k0 : Sk := [(8,.v)]
noncomputable def o1 := ob Tryz.f28 [.r,.r,.r,.r,.l]
def B1 (P : PT) (x8 : Value) (H : AHeap) : Prop :=
  P (Value.tuple ⟨[x8, (Value.int .i64 0)]⟩) H
theorem q1 (P : PT) : QB Tryz.prog T0 60 o1 (ret P) k0 (B1 P) := fun _ _ _  => by kernel_rfl
abbrev k1 : Sk := [(2,.x),(7,.v),(8,.v),(9,.i .i64)]
noncomputable def o3 := ob Tryz.f28 [.r,.r,.r,.l,.r,.l,.l,.r,.r]
def B3 (P : PT) (N2 : NTy k1 Pr) (x2 : Nat) (x7 x8 : Value) (x9 : Int) (H : AHeap) : Prop :=
  N2 x2 x7 x8 (IntKind.i64.wrap (x9 + 1)) H
theorem q3 (P : PT) (N2 : NTy k1 Pr) : QB Tryz.prog T0 60 o3 (En 60 k1 N2) k1 (B3 P N2) := fun _ _ _ _ _ _  => by kernel_rfl
abbrev k2 : Sk := [(2,.x),(7,.v),(8,.v),(9,.i .i64),(10,.v)]
noncomputable def o4 := ob Tryz.f28 [.r,.r,.r,.l,.r,.l,.l,.r,.l,.l,.r,.r,.r]
def B4 (P : PT) (N2 : NTy k1 Pr) (x2 : Nat) (x7 x8 : Value) (x9 : Int) (x10 : Value) (H : AHeap) : Prop :=
  pif (Value.oneCell' x10) (newK H [x10] 28 (fun b1 H2 => apK T0 28 H2 x8 (Value.slice (some ⟨b1, 0, none⟩) 1 (1 + 1)) (fun v3 H4 => B3 P N2 x2 x7 v3 x9 H4))) False
theorem q4 (P : PT) (N2 : NTy k1 Pr) : QB Tryz.prog T0 60 o4 (En 60 k1 (B3 P N2)) k2 (B4 P N2) := fun _ _ _ _ _ _ _  => by kernel_rfl
abbrev k3 : Sk := [(2,.x),(7,.v),(8,.v),(9,.i .i64),(10,.v),(11,.i .i64)]
noncomputable def o6 := ob Tryz.f28 [.r,.r,.r,.l,.r,.l,.l,.r,.l,.l,.r,.r,.l,.r,.l,.l,.r,.r]
def B6 (P : PT) (N2 : NTy k1 Pr) (N5 : NTy k3 Pr) (x2 : Nat) (x7 x8 : Value) (x9 : Int) (x10 : Value) (x11 : Int) (H : AHeap) : Prop :=
  N5 x2 x7 x8 x9 x10 (IntKind.i64.wrap (x11 + 1)) H
theorem q6 (P : PT) (N2 : NTy k1 Pr) (N5 : NTy k3 Pr) : QB Tryz.prog T0 60 o6 (En 60 k3 N5) k3 (B6 P N2 N5) := fun _ _ _ _ _ _ _ _  => by kernel_rfl
noncomputable def o7 := ob Tryz.f28 [.r,.r,.r,.l,.r,.l,.l,.r,.l,.l,.r,.r,.l,.r,.l,.l,.r,.l,.l,.r,.l]
def B7 (P : PT) (N2 : NTy k1 Pr) (N5 : NTy k3 Pr) (x2 : Nat) (x7 x8 : Value) (x9 : Int) (x10 : Value) (x11 : Int) (H : AHeap) : Prop :=
  newK H [(Value.int .i64 x11)] 2 (fun b1 H2 => apK T0 2 H2 x10 (Value.slice (some ⟨b1, 0, none⟩) 1 (1 + 1)) (fun v3 H4 => B6 P N2 N5 x2 x7 x8 x9 v3 x11 H4))
theorem q7 (P : PT) (N2 : NTy k1 Pr) (N5 : NTy k3 Pr) : QB Tryz.prog T0 60 o7 (En 60 k3 (B6 P N2 N5)) k3 (B7 P N2 N5) := fun _ _ _ _ _ _ _ _  => by kernel_rfl
noncomputable def o8 := ob Tryz.f28 [.r,.r,.r,.l,.r,.l,.l,.r,.l,.l,.r,.r,.l,.r,.l,.l,.r,.l,.l,.l]
def B8 (P : PT) (N2 : NTy k1 Pr) (N5 : NTy k3 Pr) (x2 : Nat) (x7 x8 : Value) (x9 : Int) (x10 : Value) (x11 : Int) (H : AHeap) : Prop :=
  idxK x7 x11 1 (fun b1 o2 => ldI .i64 H b1 o2 (fun v3 => pif ((v3 : Int) == x9) (B7 P N2 N5 x2 x7 x8 x9 x10 x11 H) (B6 P N2 N5 x2 x7 x8 x9 x10 x11 H)))
theorem q8 (P : PT) (N2 : NTy k1 Pr) (N5 : NTy k3 Pr) : QB Tryz.prog T0 60 o8 (cnd 50 (En 60 k3 (B7 P N2 N5)) (En 60 k3 (B6 P N2 N5))) k3 (B8 P N2 N5) := fun _ _ _ _ _ _ _ _  => by kernel_rfl
noncomputable def o9 := ob Tryz.f28 [.r,.r,.r,.l,.r,.l,.l,.r,.l,.l,.r,.r,.l,.r,.l,.l,.l,.l]
def B9 (P : PT) (N2 : NTy k1 Pr) (N5 : NTy k3 Pr) (x2 : Nat) (x7 x8 : Value) (x9 : Int) (x10 : Value) (x11 : Int) (H : AHeap) : Prop :=
  ldI .i64 H x2 0 (fun v1 => pif (decide ((x11 : Int) < v1)) (B8 P N2 N5 x2 x7 x8 x9 x10 x11 H) (B4 P N2 x2 x7 x8 x9 x10 H))
theorem q9 (P : PT) (N2 : NTy k1 Pr) (N5 : NTy k3 Pr) : QB Tryz.prog T0 60 o9 (cnd 42 (En 60 k3 (B8 P N2 N5)) (En 60 k2 (B4 P N2))) k3 (B9 P N2 N5) := fun _ _ _ _ _ _ _ _  => by kernel_rfl
def L5 (P : PT) (N2 : NTy k1 Pr) (x2 : Nat) (x7 x8 : Value) (x9 : Int) (x10 : Value) (x11 : Int) (H : AHeap) : Prop :=
  ∃ (I : NTy k3 Pr) (μ : NTy k3 (AHeap → Nat)), I x2 x7 x8 x9 x10 x11 H ∧ ∀ y2 y7 y8 y9 y10 y11 G, I y2 y7 y8 y9 y10 y11 G → B9 P N2 (fun z2 z7 z8 z9 z10 z11 G' => I z2 z7 z8 z9 z10 z11 G' ∧ μ z2 z7 z8 z9 z10 z11 G' < μ y2 y7 y8 y9 y10 y11 G) y2 y7 y8 y9 y10 y11 G
theorem l5 (P : PT) (N2 : NTy k1 Pr) : LQ k3 (L5 P N2) (B9 P N2) := fun ⟨_,_,_,_,_,_,_⟩ _ ⟨I, μ, h0, hI⟩ => ⟨apT _ I, apT _ μ, h0, fun ⟨_,_,_,_,_,_,_⟩ _ h => hI _ _ _ _ _ _ _  h⟩
noncomputable def o10 := ob Tryz.f28 [.r,.r,.r,.l,.r,.l,.l,.r,.l,.l,.r,.r,.l,.l]
def B10 (P : PT) (N2 : NTy k1 Pr) (x2 : Nat) (x7 x8 : Value) (x9 : Int) (x10 : Value) (H : AHeap) : Prop :=
  L5 P N2 x2 x7 x8 x9 x10 x9 H
theorem q10 (P : PT) (N2 : NTy k1 Pr) : QB Tryz.prog T0 60 o10 (En 60 k3 (L5 P N2)) k2 (B10 P N2) := fun _ _ _ _ _ _ _  => by kernel_rfl
noncomputable def o11 := ob Tryz.f28 [.r,.r,.r,.l,.r,.l,.l,.r,.l,.l,.r,.l]
def B11 (P : PT) (N2 : NTy k1 Pr) (x2 : Nat) (x7 x8 : Value) (x9 : Int) (H : AHeap) : Prop :=
  newK H [] 2 (fun b1 H2 => B10 P N2 x2 x7 x8 x9 (Value.slice (some ⟨b1, 0, none⟩) 0 (0 + 1)) H2)
theorem q11 (P : PT) (N2 : NTy k1 Pr) : QB Tryz.prog T0 60 o11 (En 60 k2 (B10 P N2)) k1 (B11 P N2) := fun _ _ _ _ _ _  => by kernel_rfl
noncomputable def o12 := ob Tryz.f28 [.r,.r,.r,.l,.r,.l,.l,.r,.l,.l,.l,.l]
def B12 (P : PT) (N2 : NTy k1 Pr) (x2 : Nat) (x7 x8 : Value) (x9 : Int) (H : AHeap) : Prop :=
  idxK x7 x9 1 (fun b1 o2 => ldI .i64 H b1 o2 (fun v3 => pif ((v3 : Int) != x9) (B3 P N2 x2 x7 x8 x9 H) (B11 P N2 x2 x7 x8 x9 H)))
theorem q12 (P : PT) (N2 : NTy k1 Pr) : QB Tryz.prog T0 60 o12 (cnd 36 (En 60 k1 (B3 P N2)) (En 60 k1 (B11 P N2))) k1 (B12 P N2) := fun _ _ _ _ _ _  => by kernel_rfl
noncomputable def o13 := ob Tryz.f28 [.r,.r,.r,.l,.r,.l,.l,.l,.l]
def B13 (P : PT) (N2 : NTy k1 Pr) (x2 : Nat) (x7 x8 : Value) (x9 : Int) (H : AHeap) : Prop :=
  ldI .i64 H x2 0 (fun v1 => pif (decide ((x9 : Int) < v1)) (B12 P N2 x2 x7 x8 x9 H) (B1 P x8 H))
theorem q13 (P : PT) (N2 : NTy k1 Pr) : QB Tryz.prog T0 60 o13 (cnd 28 (En 60 k1 (B12 P N2)) (En 60 k0 (B1 P))) k1 (B13 P N2) := fun _ _ _ _ _ _  => by kernel_rfl
def L2 (P : PT) (x2 : Nat) (x7 x8 : Value) (x9 : Int) (H : AHeap) : Prop :=
  ∃ (I : NTy k1 Pr) (μ : NTy k1 (AHeap → Nat)), I x2 x7 x8 x9 H ∧ ∀ y2 y7 y8 y9 G, I y2 y7 y8 y9 G → B13 P (fun z2 z7 z8 z9 G' => I z2 z7 z8 z9 G' ∧ μ z2 z7 z8 z9 G' < μ y2 y7 y8 y9 G) y2 y7 y8 y9 G
theorem l2 (P : PT) : LQ k1 (L2 P) (B13 P) := fun ⟨_,_,_,_,_⟩ _ ⟨I, μ, h0, hI⟩ => ⟨apT _ I, apT _ μ, h0, fun ⟨_,_,_,_,_⟩ _ h => hI _ _ _ _ _  h⟩
abbrev k4 : Sk := [(2,.x),(7,.v),(8,.v)]
noncomputable def o14 := ob Tryz.f28 [.r,.r,.r,.l,.l]
def B14 (P : PT) (x2 : Nat) (x7 x8 : Value) (H : AHeap) : Prop :=
  L2 P x2 x7 x8 0 H
theorem q14 (P : PT) : QB Tryz.prog T0 60 o14 (En 60 k1 (L2 P)) k4 (B14 P) := fun _ _ _ _ _  => by kernel_rfl
abbrev k5 : Sk := [(1,.v),(2,.x)]
noncomputable def o15 := ob Tryz.f28 [.r,.r,.l]
def B15 (P : PT) (x1 : Value) (x2 : Nat) (H : AHeap) : Prop :=
  ldI .i64 H x2 0 (fun v1 => ldI .i64 H x2 0 (fun v2 => ld1 H x2 1 (fun v3 => (AC Tryz.prog T0 93 [(Value.agg ⟨[(Value.int .i64 v2), v3]⟩), x1] H (fun v4 H5 => (ldI .i64 H5 x2 0 (fun v7 => ((Value.int .i64 v7) = (Value.int .i64 v1)) ∧ (H5 = H5))) ∧ ((AC Tryz.prog T0 105 [(Value.int .i64 v1), v4] H5 (fun v8 H9 => newK H9 [] 28 (fun b11 H12 => B14 P x2 v8 (Value.slice (some ⟨b11, 0, none⟩) 0 (0 + 1)) H12))) ∧ (newK H5 [] 28 (fun b13 H14 => AC Tryz.prog T0 105 [(Value.int .i64 v1), v4] H14 (fun v15 H16 => B14 P x2 v15 (Value.slice (some ⟨b13, 0, none⟩) 0 (0 + 1)) H16)))))) ∧ (newK H [] 28 (fun b18 H19 => AC Tryz.prog T0 93 [(Value.agg ⟨[(Value.int .i64 v2), v3]⟩), x1] H19 (fun v20 H21 => (ldI .i64 H21 x2 0 (fun v23 => ((Value.int .i64 v23) = (Value.int .i64 v1)) ∧ (H21 = H21))) ∧ (AC Tryz.prog T0 105 [(Value.int .i64 v1), v20] H21 (fun v24 H25 => B14 P x2 v24 (Value.slice (some ⟨b18, 0, none⟩) 0 (0 + 1)) H25))))))))
theorem q15 (P : PT) : QT Tryz.prog T0 60 o15 (.op 0 [] (.op 1 [] (.op 2 [] (.op 3 [] (.alt (.op 4 [1] (.alt (.op 5 [] (.op 7 [] (.op 6 [] (.op 8 [] .done)))) (.op 6 [] (.op 5 [] (.op 7 [] (.op 8 [] .done)))))) (.op 6 [] (.op 4 [1] (.op 5 [] (.op 7 [] (.op 8 [] .done)))))))))) (En 60 k4 (B14 P)) k5 (B15 P) := fun _ _ _ _  => by kernel_rfl
abbrev k6 : Sk := [(6,.i .i64)]
noncomputable def o16 := ob Tryz.f28 [.r,.l,.r,.r,.l,.l]
def B16 (P : PT) (x6 : Int) (H : AHeap) : Prop :=
  P (Value.tuple ⟨[(Value.slice none 0 0), (Value.int .i64 x6)]⟩) H
theorem q16 (P : PT) : QB Tryz.prog T0 60 o16 (ret P) k6 (B16 P) := fun _ _ _  => by kernel_rfl
abbrev k7 : Sk := [(1,.v),(2,.x),(6,.i .i64)]
noncomputable def o17 := ob Tryz.f28 [.r,.l,.r,.l]
def B17 (P : PT) (x1 : Value) (x2 : Nat) (x6 : Int) (H : AHeap) : Prop :=
  pif ((x6 : Int) != 0) (B16 P x6 H) (B15 P x1 x2 H)
theorem q17 (P : PT) : QB Tryz.prog T0 60 o17 (cnd 16 (En 60 k6 (B16 P)) (En 60 k5 (B15 P))) k7 (B17 P) := fun _ _ _ _ _  => by kernel_rfl
noncomputable def o18 := ob Tryz.f28 [.r,.l,.l]
def B18 (P : PT) (x1 : Value) (x2 : Nat) (H : AHeap) : Prop :=
  ldI .i64 H x2 0 (fun v1 => ld1 H x2 1 (fun v2 => AC Tryz.prog T0 104 [(Value.agg ⟨[(Value.int .i64 v1), v2]⟩), x1] H (fun v3 H4 => asI .i64 v3 (fun v5 => B17 P x1 x2 v5 H4))))
theorem q18 (P : PT) : QB Tryz.prog T0 60 o18 (En 60 k7 (B17 P)) k5 (B18 P) := fun _ _ _ _  => by kernel_rfl
abbrev k8 : Sk := [(0,.g [.i,.v]),(1,.v)]
noncomputable def o19 := ob Tryz.f28 [.l]
def B19 (P : PT) (x0a : Int) (x0b x1 : Value) (H : AHeap) : Prop :=
  newK H [(Value.int .i64 x0a), x0b] 26 (fun b1 H2 => B18 P x1 b1 H2)
theorem q19 (P : PT) : QB Tryz.prog T0 60 o19 (En 60 k5 (B18 P)) k8 (B19 P) := fun _ _ _ _ _  => by kernel_rfl
noncomputable def code : Code := (.seq (.region 0 ⟨o19⟩ false) (.seq (.seq (.region 1 ⟨o18⟩ false) (.seq (.region 2 ⟨o17⟩ false) (.cond (.tmp 16) (.seq (.region 3 ⟨o16⟩ false) .ret) .skip))) (.seq (.region 4 ⟨o15⟩ true) (.seq (.seq (.region 5 ⟨o14⟩ false) (.block 0 (.loop (.seq (.seq (.region 6 ⟨o13⟩ false) (.cond (.tmp 28) .skip (.exit 0))) (.seq (.block 1 (.seq (.seq (.region 8 ⟨o12⟩ false) (.cond (.tmp 36) (.exit 1) .skip)) (.seq (.region 9 ⟨o11⟩ false) (.seq (.seq (.region 10 ⟨o10⟩ false) (.block 2 (.loop (.seq (.seq (.region 11 ⟨o9⟩ false) (.cond (.tmp 42) .skip (.exit 2))) (.seq (.block 3 (.seq (.region 13 ⟨o8⟩ false) (.cond (.tmp 50) (.region 14 ⟨o7⟩ false) .skip))) (.region 12 ⟨o6⟩ false)))))) (.region 15 ⟨o4⟩ false))))) (.region 7 ⟨o3⟩ false)))))) (.seq (.region 16 ⟨o1⟩ false) .ret)))))
theorem body : Tryz.f28.body = some code := by kernel_rfl
theorem main (P : PT) : ∀ env H, (En 60 k8 (B19 P)) env H → AW Tryz.prog T0 code env H (mkQ (ret P) (fun _ _ _ => False) (ret P)) :=
  (r_seq (rB T0_ok (q19 P)) (r_seq (r_seq (rB T0_ok (q18 P)) (r_seq (rB T0_ok (q17 P)) (r_cond rfl (r_seq (rB T0_ok (q16 P)) r_ret) r_skip))) (r_seq (rT T0_ok mixed (.op 0 [] (.op 1 [] (.op 2 [] (.op 3 [] (.alt (.op 4 [1] (.alt (.op 5 [] (.op 7 [] (.op 6 [] (.op 8 [] .done)))) (.op 6 [] (.op 5 [] (.op 7 [] (.op 8 [] .done)))))) (.op 6 [] (.op 4 [1] (.op 5 [] (.op 7 [] (.op 8 [] .done)))))))))) (by kernel_rfl) (q15 P)) (r_seq (r_seq (rB T0_ok (q14 P)) (r_block (rL (l2 P) (fun N2 => (r_seq (r_seq (rB T0_ok (q13 P N2)) (r_cond rfl r_skip (r_exit (fun _ _ h => h)))) (r_seq (r_block (r_seq (r_seq (rB T0_ok (q12 P N2)) (r_cond rfl (r_exit (fun _ _ h => h)) r_skip)) (r_seq (rB T0_ok (q11 P N2)) (r_seq (r_seq (rB T0_ok (q10 P N2)) (r_block (rL (l5 P N2) (fun N5 => (r_seq (r_seq (rB T0_ok (q9 P N2 N5)) (r_cond rfl r_skip (r_exit (fun _ _ h => h)))) (r_seq (r_block (r_seq (rB T0_ok (q8 P N2 N5)) (r_cond rfl (rB T0_ok (q7 P N2 N5)) r_skip))) (rB T0_ok (q6 P N2 N5)))))))) (rB T0_ok (q4 P N2)))))) (rB T0_ok (q3 P N2)))))))) (r_seq (rB T0_ok (q1 P)) r_ret)))))
theorem ac (P : PT) (x0a : Int) (x0b x1 : Value) (H : AHeap) (h : B19 P x0a x0b x1 H) : AC Tryz.prog T0 28 [(Value.agg ⟨[(Value.int .i64 x0a), x0b]⟩), x1] H P :=
  r_fn T0_ok (c := code) (n := 60) Tryz.func28 body (by kernel_rfl) (main P) (En_mk (x0a, x0b, x1, ()) (by kernel_rfl) ⟨by kernel_rfl, by kernel_rfl, trivial⟩ h)

end F28
-- loop.example/g01329/impl.CountSides
namespace F29
noncomputable def ret (P : PT) : EP := retE T0 25 Tryz.f29 P
abbrev k0 : Sk := [(8,.i .i64),(9,.i .i64)]
noncomputable def o1 := ob Tryz.f29 [.r,.r,.r,.l]
def B1 (P : PT) (x8 x9 : Int) (H : AHeap) : Prop :=
  P (Value.tuple ⟨[(Value.int .i64 x8), (Value.int .i64 x9), (Value.int .i64 0)]⟩) H
theorem q1 (P : PT) : QB Tryz.prog T0 25 o1 (ret P) k0 (B1 P) := fun _ _ _ _  => by kernel_rfl
abbrev k1 : Sk := [(1,.v),(2,.x)]
noncomputable def o2 := ob Tryz.f29 [.r,.r,.l]
def B2 (P : PT) (x1 : Value) (x2 : Nat) (H : AHeap) : Prop :=
  ldI .i64 H x2 0 (fun v1 => ld1 H x2 1 (fun v2 => AC Tryz.prog T0 89 [x1] H (fun v3 H4 => asI .u64 v3 (fun v5 => (AHeap.le H H4) ∧ (AC Tryz.prog T0 106 [(Value.agg ⟨[(Value.int .i64 v1), v2]⟩), (Value.int .u64 v5)] H4 (fun v6 H7 => tup2 v6 (fun v8 v9 => asI .i64 v8 (fun v10 => asI .i64 v9 (fun v11 => B1 P v10 v11 H7)))))))))
theorem q2 (P : PT) : QD Tryz.prog T0 25 o2 [(0, false), (1, false), (2, true), (3, false), (4, false), (5, false), (6, false), (7, false), (8, false)] (En 25 k0 (B1 P)) k1 (B2 P) := fun _ _ _ _  => by kernel_rfl
abbrev k2 : Sk := [(7,.i .i64)]
noncomputable def o3 := ob Tryz.f29 [.r,.l,.r,.r,.l,.l]
def B3 (P : PT) (x7 : Int) (H : AHeap) : Prop :=
  P (Value.tuple ⟨[(Value.int .i64 0), (Value.int .i64 0), (Value.int .i64 x7)]⟩) H
theorem q3 (P : PT) : QB Tryz.prog T0 25 o3 (ret P) k2 (B3 P) := fun _ _ _  => by kernel_rfl
abbrev k3 : Sk := [(1,.v),(2,.x),(7,.i .i64)]
noncomputable def o4 := ob Tryz.f29 [.r,.l,.r,.l]
def B4 (P : PT) (x1 : Value) (x2 : Nat) (x7 : Int) (H : AHeap) : Prop :=
  pif ((x7 : Int) != 0) (B3 P x7 H) (B2 P x1 x2 H)
theorem q4 (P : PT) : QB Tryz.prog T0 25 o4 (cnd 14 (En 25 k2 (B3 P)) (En 25 k1 (B2 P))) k3 (B4 P) := fun _ _ _ _ _  => by kernel_rfl
noncomputable def o5 := ob Tryz.f29 [.r,.l,.l]
def B5 (P : PT) (x1 : Value) (x2 : Nat) (H : AHeap) : Prop :=
  ldI .i64 H x2 0 (fun v1 => ld1 H x2 1 (fun v2 => AC Tryz.prog T0 88 [(Value.agg ⟨[(Value.int .i64 v1), v2]⟩), x1] H (fun v3 H4 => asI .i64 v3 (fun v5 => B4 P x1 x2 v5 H4))))
theorem q5 (P : PT) : QB Tryz.prog T0 25 o5 (En 25 k3 (B4 P)) k1 (B5 P) := fun _ _ _ _  => by kernel_rfl
abbrev k4 : Sk := [(0,.g [.i,.v]),(1,.v)]
noncomputable def o6 := ob Tryz.f29 [.l]
def B6 (P : PT) (x0a : Int) (x0b x1 : Value) (H : AHeap) : Prop :=
  newK H [(Value.int .i64 x0a), x0b] 26 (fun b1 H2 => B5 P x1 b1 H2)
theorem q6 (P : PT) : QB Tryz.prog T0 25 o6 (En 25 k1 (B5 P)) k4 (B6 P) := fun _ _ _ _ _  => by kernel_rfl
noncomputable def code : Code := (.seq (.region 0 ⟨o6⟩ false) (.seq (.seq (.region 1 ⟨o5⟩ false) (.seq (.region 2 ⟨o4⟩ false) (.cond (.tmp 14) (.seq (.region 3 ⟨o3⟩ false) .ret) .skip))) (.seq (.region 4 ⟨o2⟩ true) (.seq (.region 5 ⟨o1⟩ false) .ret))))
theorem body : Tryz.f29.body = some code := by kernel_rfl
theorem main (P : PT) : ∀ env H, (En 25 k4 (B6 P)) env H → AW Tryz.prog T0 code env H (mkQ (ret P) (fun _ _ _ => False) (ret P)) :=
  (r_seq (rB T0_ok (q6 P)) (r_seq (r_seq (rB T0_ok (q5 P)) (r_seq (rB T0_ok (q4 P)) (r_cond rfl (r_seq (rB T0_ok (q3 P)) r_ret) r_skip))) (r_seq (rD T0_ok mixed [(0, false), (1, false), (2, true), (3, false), (4, false), (5, false), (6, false), (7, false), (8, false)] (by kernel_rfl) (q2 P)) (r_seq (rB T0_ok (q1 P)) r_ret))))
theorem ac (P : PT) (x0a : Int) (x0b x1 : Value) (H : AHeap) (h : B6 P x0a x0b x1 H) : AC Tryz.prog T0 29 [(Value.agg ⟨[(Value.int .i64 x0a), x0b]⟩), x1] H P :=
  r_fn T0_ok (c := code) (n := 25) Tryz.func29 body (by kernel_rfl) (main P) (En_mk (x0a, x0b, x1, ()) (by kernel_rfl) ⟨by kernel_rfl, by kernel_rfl, trivial⟩ h)

end F29
-- loop.example/g01329/spec.CountSides
namespace F30
noncomputable def ret (P : PT) : EP := retE T0 24 Tryz.f30 P
abbrev k0 : Sk := [(8,.i .i64),(9,.i .i64)]
noncomputable def o1 := ob Tryz.f30 [.r,.r,.r,.l]
def B1 (P : PT) (x8 x9 : Int) (H : AHeap) : Prop :=
  P (Value.tuple ⟨[(Value.int .i64 x8), (Value.int .i64 x9), (Value.int .i64 0)]⟩) H
theorem q1 (P : PT) : QB Tryz.prog T0 24 o1 (ret P) k0 (B1 P) := fun _ _ _ _  => by kernel_rfl
abbrev k1 : Sk := [(1,.v),(2,.x)]
noncomputable def o2 := ob Tryz.f30 [.r,.r,.l]
def B2 (P : PT) (x1 : Value) (x2 : Nat) (H : AHeap) : Prop :=
  ldI .i64 H x2 0 (fun v1 => ld1 H x2 1 (fun v2 => AC Tryz.prog T0 107 [(Value.agg ⟨[(Value.int .i64 v1), v2]⟩), x1] H (fun v3 H4 => tup2 v3 (fun v5 v6 => asI .i64 v5 (fun v7 => asI .i64 v6 (fun v8 => B1 P v7 v8 H4))))))
theorem q2 (P : PT) : QB Tryz.prog T0 24 o2 (En 24 k0 (B1 P)) k1 (B2 P) := fun _ _ _ _  => by kernel_rfl
abbrev k2 : Sk := [(7,.i .i64)]
noncomputable def o3 := ob Tryz.f30 [.r,.l,.r,.r,.l,.l]
def B3 (P : PT) (x7 : Int) (H : AHeap) : Prop :=
  P (Value.tuple ⟨[(Value.int .i64 0), (Value.int .i64 0), (Value.int .i64 x7)]⟩) H
theorem q3 (P : PT) : QB Tryz.prog T0 24 o3 (ret P) k2 (B3 P) := fun _ _ _  => by kernel_rfl
abbrev k3 : Sk := [(1,.v),(2,.x),(7,.i .i64)]
noncomputable def o4 := ob Tryz.f30 [.r,.l,.r,.l]
def B4 (P : PT) (x1 : Value) (x2 : Nat) (x7 : Int) (H : AHeap) : Prop :=
  pif ((x7 : Int) != 0) (B3 P x7 H) (B2 P x1 x2 H)
theorem q4 (P : PT) : QB Tryz.prog T0 24 o4 (cnd 14 (En 24 k2 (B3 P)) (En 24 k1 (B2 P))) k3 (B4 P) := fun _ _ _ _ _  => by kernel_rfl
noncomputable def o5 := ob Tryz.f30 [.r,.l,.l]
def B5 (P : PT) (x1 : Value) (x2 : Nat) (H : AHeap) : Prop :=
  ldI .i64 H x2 0 (fun v1 => ld1 H x2 1 (fun v2 => AC Tryz.prog T0 104 [(Value.agg ⟨[(Value.int .i64 v1), v2]⟩), x1] H (fun v3 H4 => asI .i64 v3 (fun v5 => B4 P x1 x2 v5 H4))))
theorem q5 (P : PT) : QB Tryz.prog T0 24 o5 (En 24 k3 (B4 P)) k1 (B5 P) := fun _ _ _ _  => by kernel_rfl
abbrev k4 : Sk := [(0,.g [.i,.v]),(1,.v)]
noncomputable def o6 := ob Tryz.f30 [.l]
def B6 (P : PT) (x0a : Int) (x0b x1 : Value) (H : AHeap) : Prop :=
  newK H [(Value.int .i64 x0a), x0b] 26 (fun b1 H2 => B5 P x1 b1 H2)
theorem q6 (P : PT) : QB Tryz.prog T0 24 o6 (En 24 k1 (B5 P)) k4 (B6 P) := fun _ _ _ _ _  => by kernel_rfl
noncomputable def code : Code := (.seq (.region 0 ⟨o6⟩ false) (.seq (.seq (.region 1 ⟨o5⟩ false) (.seq (.region 2 ⟨o4⟩ false) (.cond (.tmp 14) (.seq (.region 3 ⟨o3⟩ false) .ret) .skip))) (.seq (.region 4 ⟨o2⟩ false) (.seq (.region 5 ⟨o1⟩ false) .ret))))
theorem body : Tryz.f30.body = some code := by kernel_rfl
theorem main (P : PT) : ∀ env H, (En 24 k4 (B6 P)) env H → AW Tryz.prog T0 code env H (mkQ (ret P) (fun _ _ _ => False) (ret P)) :=
  (r_seq (rB T0_ok (q6 P)) (r_seq (r_seq (rB T0_ok (q5 P)) (r_seq (rB T0_ok (q4 P)) (r_cond rfl (r_seq (rB T0_ok (q3 P)) r_ret) r_skip))) (r_seq (rB T0_ok (q2 P)) (r_seq (rB T0_ok (q1 P)) r_ret))))
theorem ac (P : PT) (x0a : Int) (x0b x1 : Value) (H : AHeap) (h : B6 P x0a x0b x1 H) : AC Tryz.prog T0 30 [(Value.agg ⟨[(Value.int .i64 x0a), x0b]⟩), x1] H P :=
  r_fn T0_ok (c := code) (n := 24) Tryz.func30 body (by kernel_rfl) (main P) (En_mk (x0a, x0b, x1, ()) (by kernel_rfl) ⟨by kernel_rfl, by kernel_rfl, trivial⟩ h)

end F30
-- loop.example/g01329/impl.IsEdgeCut
namespace F31
noncomputable def ret (P : PT) : EP := retE T0 17 Tryz.f31 P
abbrev k0 : Sk := [(1,.v),(2,.x)]
noncomputable def o1 := ob Tryz.f31 [.r,.r,.l]
def B1 (P : PT) (x1 : Value) (x2 : Nat) (H : AHeap) : Prop :=
  ldI .i64 H x2 0 (fun v1 => ld1 H x2 1 (fun v2 => AC Tryz.prog T0 89 [x1] H (fun v3 H4 => asI .u64 v3 (fun v5 => (AHeap.le H H4) ∧ (AC Tryz.prog T0 74 [(Value.agg ⟨[(Value.int .i64 v1), v2]⟩), (Value.int .u64 v5)] H4 (fun v6 H7 => asB v6 (fun v8 => P (Value.tuple ⟨[(Value.bool v8), (Value.int .i64 0)]⟩) H7)))))))
theorem q1 (P : PT) : QD Tryz.prog T0 17 o1 [(0, false), (1, false), (2, true), (3, false), (4, false), (5, false)] (ret P) k0 (B1 P) := fun _ _ _ _  => by kernel_rfl
abbrev k1 : Sk := [(6,.i .i64)]
noncomputable def o2 := ob Tryz.f31 [.r,.l,.r,.r,.l,.l]
def B2 (P : PT) (x6 : Int) (H : AHeap) : Prop :=
  P (Value.tuple ⟨[(Value.bool false), (Value.int .i64 x6)]⟩) H
theorem q2 (P : PT) : QB Tryz.prog T0 17 o2 (ret P) k1 (B2 P) := fun _ _ _  => by kernel_rfl
abbrev k2 : Sk := [(1,.v),(2,.x),(6,.i .i64)]
noncomputable def o3 := ob Tryz.f31 [.r,.l,.r,.l]
def B3 (P : PT) (x1 : Value) (x2 : Nat) (x6 : Int) (H : AHeap) : Prop :=
  pif ((x6 : Int) != 0) (B2 P x6 H) (B1 P x1 x2 H)
theorem q3 (P : PT) : QB Tryz.prog T0 17 o3 (cnd 11 (En 17 k1 (B2 P)) (En 17 k0 (B1 P))) k2 (B3 P) := fun _ _ _ _ _  => by kernel_rfl
noncomputable def o4 := ob Tryz.f31 [.r,.l,.l]
def B4 (P : PT) (x1 : Value) (x2 : Nat) (H : AHeap) : Prop :=
  ldI .i64 H x2 0 (fun v1 => ld1 H x2 1 (fun v2 => AC Tryz.prog T0 88 [(Value.agg ⟨[(Value.int .i64 v1), v2]⟩), x1] H (fun v3 H4 => asI .i64 v3 (fun v5 => B3 P x1 x2 v5 H4))))
theorem q4 (P : PT) : QB Tryz.prog T0 17 o4 (En 17 k2 (B3 P)) k0 (B4 P) := fun _ _ _ _  => by kernel_rfl
abbrev k3 : Sk := [(0,.g [.i,.v]),(1,.v)]
noncomputable def o5 := ob Tryz.f31 [.l]
def B5 (P : PT) (x0a : Int) (x0b x1 : Value) (H : AHeap) : Prop :=
  newK H [(Value.int .i64 x0a), x0b] 26 (fun b1 H2 => B4 P x1 b1 H2)
theorem q5 (P : PT) : QB Tryz.prog T0 17 o5 (En 17 k0 (B4 P)) k3 (B5 P) := fun _ _ _ _ _  => by kernel_rfl
noncomputable def code : Code := (.seq (.region 0 ⟨o5⟩ false) (.seq (.seq (.region 1 ⟨o4⟩ false) (.seq (.region 2 ⟨o3⟩ false) (.cond (.tmp 11) (.seq (.region 3 ⟨o2⟩ false) .ret) .skip))) (.seq (.region 4 ⟨o1⟩ true) .ret)))
theorem body : Tryz.f31.body = some code := by kernel_rfl
theorem main (P : PT) : ∀ env H, (En 17 k3 (B5 P)) env H → AW Tryz.prog T0 code env H (mkQ (ret P) (fun _ _ _ => False) (ret P)) :=
  (r_seq (rB T0_ok (q5 P)) (r_seq (r_seq (rB T0_ok (q4 P)) (r_seq (rB T0_ok (q3 P)) (r_cond rfl (r_seq (rB T0_ok (q2 P)) r_ret) r_skip))) (r_seq (rD T0_ok mixed [(0, false), (1, false), (2, true), (3, false), (4, false), (5, false)] (by kernel_rfl) (q1 P)) r_ret)))
theorem ac (P : PT) (x0a : Int) (x0b x1 : Value) (H : AHeap) (h : B5 P x0a x0b x1 H) : AC Tryz.prog T0 31 [(Value.agg ⟨[(Value.int .i64 x0a), x0b]⟩), x1] H P :=
  r_fn T0_ok (c := code) (n := 17) Tryz.func31 body (by kernel_rfl) (main P) (En_mk (x0a, x0b, x1, ()) (by kernel_rfl) ⟨by kernel_rfl, by kernel_rfl, trivial⟩ h)

end F31
-- loop.example/g01329/impl.IsCyclicCut
namespace F32
noncomputable def ret (P : PT) : EP := retE T0 17 Tryz.f32 P
abbrev k0 : Sk := [(1,.v),(2,.x)]
noncomputable def o1 := ob Tryz.f32 [.r,.r,.l]
def B1 (P : PT) (x1 : Value) (x2 : Nat) (H : AHeap) : Prop :=
  ldI .i64 H x2 0 (fun v1 => ld1 H x2 1 (fun v2 => AC Tryz.prog T0 89 [x1] H (fun v3 H4 => asI .u64 v3 (fun v5 => (AHeap.le H H4) ∧ (AC Tryz.prog T0 94 [(Value.agg ⟨[(Value.int .i64 v1), v2]⟩), (Value.int .u64 v5)] H4 (fun v6 H7 => asB v6 (fun v8 => P (Value.tuple ⟨[(Value.bool v8), (Value.int .i64 0)]⟩) H7)))))))
theorem q1 (P : PT) : QD Tryz.prog T0 17 o1 [(0, false), (1, false), (2, true), (3, false), (4, false), (5, false)] (ret P) k0 (B1 P) := fun _ _ _ _  => by kernel_rfl
abbrev k1 : Sk := [(6,.i .i64)]
noncomputable def o2 := ob Tryz.f32 [.r,.l,.r,.r,.l,.l]
def B2 (P : PT) (x6 : Int) (H : AHeap) : Prop :=
  P (Value.tuple ⟨[(Value.bool false), (Value.int .i64 x6)]⟩) H
theorem q2 (P : PT) : QB Tryz.prog T0 17 o2 (ret P) k1 (B2 P) := fun _ _ _  => by kernel_rfl
abbrev k2 : Sk := [(1,.v),(2,.x),(6,.i .i64)]
noncomputable def o3 := ob Tryz.f32 [.r,.l,.r,.l]
def B3 (P : PT) (x1 : Value) (x2 : Nat) (x6 : Int) (H : AHeap) : Prop :=
  pif ((x6 : Int) != 0) (B2 P x6 H) (B1 P x1 x2 H)
theorem q3 (P : PT) : QB Tryz.prog T0 17 o3 (cnd 11 (En 17 k1 (B2 P)) (En 17 k0 (B1 P))) k2 (B3 P) := fun _ _ _ _ _  => by kernel_rfl
noncomputable def o4 := ob Tryz.f32 [.r,.l,.l]
def B4 (P : PT) (x1 : Value) (x2 : Nat) (H : AHeap) : Prop :=
  ldI .i64 H x2 0 (fun v1 => ld1 H x2 1 (fun v2 => AC Tryz.prog T0 88 [(Value.agg ⟨[(Value.int .i64 v1), v2]⟩), x1] H (fun v3 H4 => asI .i64 v3 (fun v5 => B3 P x1 x2 v5 H4))))
theorem q4 (P : PT) : QB Tryz.prog T0 17 o4 (En 17 k2 (B3 P)) k0 (B4 P) := fun _ _ _ _  => by kernel_rfl
abbrev k3 : Sk := [(0,.g [.i,.v]),(1,.v)]
noncomputable def o5 := ob Tryz.f32 [.l]
def B5 (P : PT) (x0a : Int) (x0b x1 : Value) (H : AHeap) : Prop :=
  newK H [(Value.int .i64 x0a), x0b] 26 (fun b1 H2 => B4 P x1 b1 H2)
theorem q5 (P : PT) : QB Tryz.prog T0 17 o5 (En 17 k0 (B4 P)) k3 (B5 P) := fun _ _ _ _ _  => by kernel_rfl
noncomputable def code : Code := (.seq (.region 0 ⟨o5⟩ false) (.seq (.seq (.region 1 ⟨o4⟩ false) (.seq (.region 2 ⟨o3⟩ false) (.cond (.tmp 11) (.seq (.region 3 ⟨o2⟩ false) .ret) .skip))) (.seq (.region 4 ⟨o1⟩ true) .ret)))
theorem body : Tryz.f32.body = some code := by kernel_rfl
theorem main (P : PT) : ∀ env H, (En 17 k3 (B5 P)) env H → AW Tryz.prog T0 code env H (mkQ (ret P) (fun _ _ _ => False) (ret P)) :=
  (r_seq (rB T0_ok (q5 P)) (r_seq (r_seq (rB T0_ok (q4 P)) (r_seq (rB T0_ok (q3 P)) (r_cond rfl (r_seq (rB T0_ok (q2 P)) r_ret) r_skip))) (r_seq (rD T0_ok mixed [(0, false), (1, false), (2, true), (3, false), (4, false), (5, false)] (by kernel_rfl) (q1 P)) r_ret)))
theorem ac (P : PT) (x0a : Int) (x0b x1 : Value) (H : AHeap) (h : B5 P x0a x0b x1 H) : AC Tryz.prog T0 32 [(Value.agg ⟨[(Value.int .i64 x0a), x0b]⟩), x1] H P :=
  r_fn T0_ok (c := code) (n := 17) Tryz.func32 body (by kernel_rfl) (main P) (En_mk (x0a, x0b, x1, ()) (by kernel_rfl) ⟨by kernel_rfl, by kernel_rfl, trivial⟩ h)

end F32
-- loop.example/g01329/impl.PartsOf
namespace F33
noncomputable def ret (P : PT) : EP := retE T0 12 Tryz.f33 P
abbrev k0 : Sk := [(1,.x)]
noncomputable def o1 := ob Tryz.f33 [.r,.r,.l]
def B1 (P : PT) (x1 : Nat) (H : AHeap) : Prop :=
  ldI .i64 H x1 0 (fun v1 => ld1 H x1 1 (fun v2 => AC Tryz.prog T0 103 [(Value.agg ⟨[(Value.int .i64 v1), v2]⟩), (Value.int .u64 0)] H (fun v3 H4 => P (Value.tuple ⟨[v3, (Value.int .i64 0)]⟩) H4)))
theorem q1 (P : PT) : QB Tryz.prog T0 12 o1 (ret P) k0 (B1 P) := fun _ _ _  => by kernel_rfl
abbrev k1 : Sk := [(4,.i .i64)]
noncomputable def o2 := ob Tryz.f33 [.r,.l,.r,.r,.l,.l]
def B2 (P : PT) (x4 : Int) (H : AHeap) : Prop :=
  P (Value.tuple ⟨[(Value.slice none 0 0), (Value.int .i64 x4)]⟩) H
theorem q2 (P : PT) : QB Tryz.prog T0 12 o2 (ret P) k1 (B2 P) := fun _ _ _  => by kernel_rfl
abbrev k2 : Sk := [(1,.x),(4,.i .i64)]
noncomputable def o3 := ob Tryz.f33 [.r,.l,.r,.l]
def B3 (P : PT) (x1 : Nat) (x4 : Int) (H : AHeap) : Prop :=
  pif ((x4 : Int) != 0) (B2 P x4 H) (B1 P x1 H)
theorem q3 (P : PT) : QB Tryz.prog T0 12 o3 (cnd 8 (En 12 k1 (B2 P)) (En 12 k0 (B1 P))) k2 (B3 P) := fun _ _ _ _  => by kernel_rfl
noncomputable def o4 := ob Tryz.f33 [.r,.l,.l]
def B4 (P : PT) (x1 : Nat) (H : AHeap) : Prop :=
  ldI .i64 H x1 0 (fun v1 => ld1 H x1 1 (fun v2 => AC Tryz.prog T0 72 [(Value.agg ⟨[(Value.int .i64 v1), v2]⟩), (Value.bool true)] H (fun v3 H4 => asI .i64 v3 (fun v5 => B3 P x1 v5 H4))))
theorem q4 (P : PT) : QB Tryz.prog T0 12 o4 (En 12 k2 (B3 P)) k0 (B4 P) := fun _ _ _  => by kernel_rfl
abbrev k3 : Sk := [(0,.g [.i,.v])]
noncomputable def o5 := ob Tryz.f33 [.l]
def B5 (P : PT) (x0a : Int) (x0b : Value) (H : AHeap) : Prop :=
  newK H [(Value.int .i64 x0a), x0b] 26 (fun b1 H2 => B4 P b1 H2)
theorem q5 (P : PT) : QB Tryz.prog T0 12 o5 (En 12 k0 (B4 P)) k3 (B5 P) := fun _ _ _ _  => by kernel_rfl
noncomputable def code : Code := (.seq (.region 0 ⟨o5⟩ false) (.seq (.seq (.region 1 ⟨o4⟩ false) (.seq (.region 2 ⟨o3⟩ false) (.cond (.tmp 8) (.seq (.region 3 ⟨o2⟩ false) .ret) .skip))) (.seq (.region 4 ⟨o1⟩ false) .ret)))
theorem body : Tryz.f33.body = some code := by kernel_rfl
theorem main (P : PT) : ∀ env H, (En 12 k3 (B5 P)) env H → AW Tryz.prog T0 code env H (mkQ (ret P) (fun _ _ _ => False) (ret P)) :=
  (r_seq (rB T0_ok (q5 P)) (r_seq (r_seq (rB T0_ok (q4 P)) (r_seq (rB T0_ok (q3 P)) (r_cond rfl (r_seq (rB T0_ok (q2 P)) r_ret) r_skip))) (r_seq (rB T0_ok (q1 P)) r_ret)))
theorem ac (P : PT) (x0a : Int) (x0b : Value) (H : AHeap) (h : B5 P x0a x0b H) : AC Tryz.prog T0 33 [(Value.agg ⟨[(Value.int .i64 x0a), x0b]⟩)] H P :=
  r_fn T0_ok (c := code) (n := 12) Tryz.func33 body (by kernel_rfl) (main P) (En_mk (x0a, x0b, ()) (by kernel_rfl) ⟨by kernel_rfl, trivial⟩ h)

end F33
-- loop.example/g01329/spec.DrawIsEdgeCut
namespace F34
noncomputable def ret (P : PT) : EP := retE T0 13 Tryz.f34 P
abbrev k0 : Sk := [(2,.x),(4,.x),(5,.v)]
noncomputable def o1 := ob Tryz.f34 [.r,.r,.l]
def B1 (P : PT) (x2 x4 : Nat) (x5 : Value) (H : AHeap) : Prop :=
  ldI .i64 H x4 0 (fun v1 => ld1 H x4 1 (fun v2 => stK H x2 0 [(Value.int .i64 v1), v2] (fun H3 => ldI .i64 H3 x2 0 (fun v4 => ld1 H3 x2 1 (fun v5 => P (Value.tuple ⟨[(Value.agg ⟨[(Value.int .i64 v4), v5]⟩), x5]⟩) H3)))))
theorem q1 (P : PT) : QB Tryz.prog T0 13 o1 (ret P) k0 (B1 P) := fun _ _ _ _ _  => by kernel_rfl
abbrev k1 : Sk := [(0,.v),(2,.x)]
noncomputable def o2 := ob Tryz.f34 [.r,.l]
def B2 (P : PT) (x0 : Value) (x2 : Nat) (H : AHeap) : Prop :=
  AC Tryz.prog T0 102 [x0] H (fun v1 H2 => tup2 v1 (fun v3 v4 => agg2 v3 (fun v5 v6 => asI .i64 v5 (fun v7 => newK H2 [(Value.int .i64 0), (Value.slice none 0 0)] 26 (fun b10 H11 => stK H11 b10 0 [(Value.int .i64 v7), v6] (fun H12 => B1 P x2 b10 v4 H12))))))
theorem q2 (P : PT) : QB Tryz.prog T0 13 o2 (En 13 k0 (B1 P)) k1 (B2 P) := fun _ _ _ _  => by kernel_rfl
abbrev k2 : Sk := [(0,.v)]
noncomputable def o3 := ob Tryz.f34 [.l]
def B3 (P : PT) (x0 : Value) (H : AHeap) : Prop :=
  newK H [(Value.int .i64 0), (Value.slice none 0 0)] 26 (fun b1 H2 => B2 P x0 b1 H2)
theorem q3 (P : PT) : QB Tryz.prog T0 13 o3 (En 13 k1 (B2 P)) k2 (B3 P) := fun _ _ _  => by kernel_rfl
noncomputable def code : Code := (.seq (.region 0 ⟨o3⟩ false) (.seq (.region 1 ⟨o2⟩ false) (.seq (.region 2 ⟨o1⟩ false) .ret)))
theorem body : Tryz.f34.body = some code := by kernel_rfl
theorem main (P : PT) : ∀ env H, (En 13 k2 (B3 P)) env H → AW Tryz.prog T0 code env H (mkQ (ret P) (fun _ _ _ => False) (ret P)) :=
  (r_seq (rB T0_ok (q3 P)) (r_seq (rB T0_ok (q2 P)) (r_seq (rB T0_ok (q1 P)) r_ret)))
theorem ac (P : PT) (x0 : Value) (H : AHeap) (h : B3 P x0 H) : AC Tryz.prog T0 34 [x0] H P :=
  r_fn T0_ok (c := code) (n := 13) Tryz.func34 body (by kernel_rfl) (main P) (En_mk (x0, ()) (by kernel_rfl) ⟨by kernel_rfl, trivial⟩ h)

end F34
-- loop.example/g01329/spec.IsEdgeCut
namespace F35
noncomputable def ret (P : PT) : EP := retE T0 25 Tryz.f35 P
abbrev k0 : Sk := [(1,.v),(2,.x)]
noncomputable def o1 := ob Tryz.f35 [.r,.r,.l]
def B1 (P : PT) (x1 : Value) (x2 : Nat) (H : AHeap) : Prop :=
  ldI .i64 H x2 0 (fun v1 => ldI .i64 H x2 0 (fun v2 => ld1 H x2 1 (fun v3 => ldI .i64 H x2 0 (fun v4 => ld1 H x2 1 (fun v5 => AC Tryz.prog T0 93 [(Value.agg ⟨[(Value.int .i64 v2), v3]⟩), x1] H (fun v6 H7 => (AHeap.le H H7) ∧ (AC Tryz.prog T0 92 [(Value.int .i64 v1), v6] H7 (fun v9 H10 => asI .i64 v9 (fun v11 => (AHeap.le H7 H10) ∧ (AC Tryz.prog T0 92 [(Value.int .i64 v4), v5] H10 (fun v12 H13 => asI .i64 v12 (fun v14 => P (Value.tuple ⟨[(Value.bool (decide ((v11 : Int) > v14))), (Value.int .i64 0)]⟩) H13))))))))))))
theorem q1 (P : PT) : QD Tryz.prog T0 25 o1 [(0, false), (1, false), (2, false), (3, false), (6, false), (7, false), (8, false), (9, false), (4, true), (5, true), (10, false), (11, false), (12, false), (13, false)] (ret P) k0 (B1 P) := fun _ _ _ _  => by kernel_rfl
abbrev k1 : Sk := [(6,.i .i64)]
noncomputable def o2 := ob Tryz.f35 [.r,.l,.r,.r,.l,.l]
def B2 (P : PT) (x6 : Int) (H : AHeap) : Prop :=
  P (Value.tuple ⟨[(Value.bool false), (Value.int .i64 x6)]⟩) H
theorem q2 (P : PT) : QB Tryz.prog T0 25 o2 (ret P) k1 (B2 P) := fun _ _ _  => by kernel_rfl
abbrev k2 : Sk := [(1,.v),(2,.x),(6,.i .i64)]
noncomputable def o3 := ob Tryz.f35 [.r,.l,.r,.l]
def B3 (P : PT) (x1 : Value) (x2 : Nat) (x6 : Int) (H : AHeap) : Prop :=
  pif ((x6 : Int) != 0) (B2 P x6 H) (B1 P x1 x2 H)
theorem q3 (P : PT) : QB Tryz.prog T0 25 o3 (cnd 11 (En 25 k1 (B2 P)) (En 25 k0 (B1 P))) k2 (B3 P) := fun _ _ _ _ _  => by kernel_rfl
noncomputable def o4 := ob Tryz.f35 [.r,.l,.l]
def B4 (P : PT) (x1 : Value) (x2 : Nat) (H : AHeap) : Prop :=
  ldI .i64 H x2 0 (fun v1 => ld1 H x2 1 (fun v2 => AC Tryz.prog T0 104 [(Value.agg ⟨[(Value.int .i64 v1), v2]⟩), x1] H (fun v3 H4 => asI .i64 v3 (fun v5 => B3 P x1 x2 v5 H4))))
theorem q4 (P : PT) : QB Tryz.prog T0 25 o4 (En 25 k2 (B3 P)) k0 (B4 P) := fun _ _ _ _  => by kernel_rfl
abbrev k3 : Sk := [(0,.g [.i,.v]),(1,.v)]
noncomputable def o5 := ob Tryz.f35 [.l]
def B5 (P : PT) (x0a : Int) (x0b x1 : Value) (H : AHeap) : Prop :=
  newK H [(Value.int .i64 x0a), x0b] 26 (fun b1 H2 => B4 P x1 b1 H2)
theorem q5 (P : PT) : QB Tryz.prog T0 25 o5 (En 25 k0 (B4 P)) k3 (B5 P) := fun _ _ _ _ _  => by kernel_rfl
noncomputable def code : Code := (.seq (.region 0 ⟨o5⟩ false) (.seq (.seq (.region 1 ⟨o4⟩ false) (.seq (.region 2 ⟨o3⟩ false) (.cond (.tmp 11) (.seq (.region 3 ⟨o2⟩ false) .ret) .skip))) (.seq (.region 4 ⟨o1⟩ true) .ret)))
theorem body : Tryz.f35.body = some code := by kernel_rfl
theorem main (P : PT) : ∀ env H, (En 25 k3 (B5 P)) env H → AW Tryz.prog T0 code env H (mkQ (ret P) (fun _ _ _ => False) (ret P)) :=
  (r_seq (rB T0_ok (q5 P)) (r_seq (r_seq (rB T0_ok (q4 P)) (r_seq (rB T0_ok (q3 P)) (r_cond rfl (r_seq (rB T0_ok (q2 P)) r_ret) r_skip))) (r_seq (rD T0_ok mixed [(0, false), (1, false), (2, false), (3, false), (6, false), (7, false), (8, false), (9, false), (4, true), (5, true), (10, false), (11, false), (12, false), (13, false)] (by kernel_rfl) (q1 P)) r_ret)))
theorem ac (P : PT) (x0a : Int) (x0b x1 : Value) (H : AHeap) (h : B5 P x0a x0b x1 H) : AC Tryz.prog T0 35 [(Value.agg ⟨[(Value.int .i64 x0a), x0b]⟩), x1] H P :=
  r_fn T0_ok (c := code) (n := 25) Tryz.func35 body (by kernel_rfl) (main P) (En_mk (x0a, x0b, x1, ()) (by kernel_rfl) ⟨by kernel_rfl, by kernel_rfl, trivial⟩ h)

end F35
-- loop.example/g01329/spec.IsBond
namespace F36
noncomputable def ret (P : PT) : EP := retE T0 16 Tryz.f36 P
abbrev k0 : Sk := [(1,.v),(2,.x)]
noncomputable def o1 := ob Tryz.f36 [.r,.r,.l]
def B1 (P : PT) (x1 : Value) (x2 : Nat) (H : AHeap) : Prop :=
  ldI .i64 H x2 0 (fun v1 => ld1 H x2 1 (fun v2 => AC Tryz.prog T0 87 [(Value.agg ⟨[(Value.int .i64 v1), v2]⟩), x1] H (fun v3 H4 => asB v3 (fun v5 => P (Value.tuple ⟨[(Value.bool v5), (Value.int .i64 0)]⟩) H4))))
theorem q1 (P : PT) : QB Tryz.prog T0 16 o1 (ret P) k0 (B1 P) := fun _ _ _ _  => by kernel_rfl
abbrev k1 : Sk := [(6,.i .i64)]
noncomputable def o2 := ob Tryz.f36 [.r,.l,.r,.r,.l,.l]
def B2 (P : PT) (x6 : Int) (H : AHeap) : Prop :=
  P (Value.tuple ⟨[(Value.bool false), (Value.int .i64 x6)]⟩) H
theorem q2 (P : PT) : QB Tryz.prog T0 16 o2 (ret P) k1 (B2 P) := fun _ _ _  => by kernel_rfl
abbrev k2 : Sk := [(1,.v),(2,.x),(6,.i .i64)]
noncomputable def o3 := ob Tryz.f36 [.r,.l,.r,.l]
def B3 (P : PT) (x1 : Value) (x2 : Nat) (x6 : Int) (H : AHeap) : Prop :=
  pif ((x6 : Int) != 0) (B2 P x6 H) (B1 P x1 x2 H)
theorem q3 (P : PT) : QB Tryz.prog T0 16 o3 (cnd 11 (En 16 k1 (B2 P)) (En 16 k0 (B1 P))) k2 (B3 P) := fun _ _ _ _ _  => by kernel_rfl
noncomputable def o4 := ob Tryz.f36 [.r,.l,.l]
def B4 (P : PT) (x1 : Value) (x2 : Nat) (H : AHeap) : Prop :=
  ldI .i64 H x2 0 (fun v1 => ld1 H x2 1 (fun v2 => AC Tryz.prog T0 104 [(Value.agg ⟨[(Value.int .i64 v1), v2]⟩), x1] H (fun v3 H4 => asI .i64 v3 (fun v5 => B3 P x1 x2 v5 H4))))
theorem q4 (P : PT) : QB Tryz.prog T0 16 o4 (En 16 k2 (B3 P)) k0 (B4 P) := fun _ _ _ _  => by kernel_rfl
abbrev k3 : Sk := [(0,.g [.i,.v]),(1,.v)]
noncomputable def o5 := ob Tryz.f36 [.l]
def B5 (P : PT) (x0a : Int) (x0b x1 : Value) (H : AHeap) : Prop :=
  newK H [(Value.int .i64 x0a), x0b] 26 (fun b1 H2 => B4 P x1 b1 H2)
theorem q5 (P : PT) : QB Tryz.prog T0 16 o5 (En 16 k0 (B4 P)) k3 (B5 P) := fun _ _ _ _ _  => by kernel_rfl
noncomputable def code : Code := (.seq (.region 0 ⟨o5⟩ false) (.seq (.seq (.region 1 ⟨o4⟩ false) (.seq (.region 2 ⟨o3⟩ false) (.cond (.tmp 11) (.seq (.region 3 ⟨o2⟩ false) .ret) .skip))) (.seq (.region 4 ⟨o1⟩ false) .ret)))
theorem body : Tryz.f36.body = some code := by kernel_rfl
theorem main (P : PT) : ∀ env H, (En 16 k3 (B5 P)) env H → AW Tryz.prog T0 code env H (mkQ (ret P) (fun _ _ _ => False) (ret P)) :=
  (r_seq (rB T0_ok (q5 P)) (r_seq (r_seq (rB T0_ok (q4 P)) (r_seq (rB T0_ok (q3 P)) (r_cond rfl (r_seq (rB T0_ok (q2 P)) r_ret) r_skip))) (r_seq (rB T0_ok (q1 P)) r_ret)))
theorem ac (P : PT) (x0a : Int) (x0b x1 : Value) (H : AHeap) (h : B5 P x0a x0b x1 H) : AC Tryz.prog T0 36 [(Value.agg ⟨[(Value.int .i64 x0a), x0b]⟩), x1] H P :=
  r_fn T0_ok (c := code) (n := 16) Tryz.func36 body (by kernel_rfl) (main P) (En_mk (x0a, x0b, x1, ()) (by kernel_rfl) ⟨by kernel_rfl, by kernel_rfl, trivial⟩ h)

end F36
-- loop.example/g01329/spec.DrawIsCyclicCut
namespace F37
noncomputable def ret (P : PT) : EP := retE T0 13 Tryz.f37 P
abbrev k0 : Sk := [(2,.x),(4,.x),(5,.v)]
noncomputable def o1 := ob Tryz.f37 [.r,.r,.l]
def B1 (P : PT) (x2 x4 : Nat) (x5 : Value) (H : AHeap) : Prop :=
  ldI .i64 H x4 0 (fun v1 => ld1 H x4 1 (fun v2 => stK H x2 0 [(Value.int .i64 v1), v2] (fun H3 => ldI .i64 H3 x2 0 (fun v4 => ld1 H3 x2 1 (fun v5 => P (Value.tuple ⟨[(Value.agg ⟨[(Value.int .i64 v4), v5]⟩), x5]⟩) H3)))))
theorem q1 (P : PT) : QB Tryz.prog T0 13 o1 (ret P) k0 (B1 P) := fun _ _ _ _ _  => by kernel_rfl
abbrev k1 : Sk := [(0,.v),(2,.x)]
noncomputable def o2 := ob Tryz.f37 [.r,.l]
def B2 (P : PT) (x0 : Value) (x2 : Nat) (H : AHeap) : Prop :=
  AC Tryz.prog T0 102 [x0] H (fun v1 H2 => tup2 v1 (fun v3 v4 => agg2 v3 (fun v5 v6 => asI .i64 v5 (fun v7 => newK H2 [(Value.int .i64 0), (Value.slice none 0 0)] 26 (fun b10 H11 => stK H11 b10 0 [(Value.int .i64 v7), v6] (fun H12 => B1 P x2 b10 v4 H12))))))
theorem q2 (P : PT) : QB Tryz.prog T0 13 o2 (En 13 k0 (B1 P)) k1 (B2 P) := fun _ _ _ _  => by kernel_rfl
abbrev k2 : Sk := [(0,.v)]
noncomputable def o3 := ob Tryz.f37 [.l]
def B3 (P : PT) (x0 : Value) (H : AHeap) : Prop :=
  newK H [(Value.int .i64 0), (Value.slice none 0 0)] 26 (fun b1 H2 => B2 P x0 b1 H2)
theorem q3 (P : PT) : QB Tryz.prog T0 13 o3 (En 13 k1 (B2 P)) k2 (B3 P) := fun _ _ _  => by kernel_rfl
noncomputable def code : Code := (.seq (.region 0 ⟨o3⟩ false) (.seq (.region 1 ⟨o2⟩ false) (.seq (.region 2 ⟨o1⟩ false) .ret)))
theorem body : Tryz.f37.body = some code := by kernel_rfl
theorem main (P : PT) : ∀ env H, (En 13 k2 (B3 P)) env H → AW Tryz.prog T0 code env H (mkQ (ret P) (fun _ _ _ => False) (ret P)) :=
  (r_seq (rB T0_ok (q3 P)) (r_seq (rB T0_ok (q2 P)) (r_seq (rB T0_ok (q1 P)) r_ret)))
theorem ac (P : PT) (x0 : Value) (H : AHeap) (h : B3 P x0 H) : AC Tryz.prog T0 37 [x0] H P :=
  r_fn T0_ok (c := code) (n := 13) Tryz.func37 body (by kernel_rfl) (main P) (En_mk (x0, ()) (by kernel_rfl) ⟨by kernel_rfl, trivial⟩ h)

end F37
-- loop.example/g01329/spec.IsCyclicCut
namespace F38
noncomputable def ret (P : PT) : EP := retE T0 16 Tryz.f38 P
abbrev k0 : Sk := [(1,.v),(2,.x)]
noncomputable def o1 := ob Tryz.f38 [.r,.r,.l]
def B1 (P : PT) (x1 : Value) (x2 : Nat) (H : AHeap) : Prop :=
  ldI .i64 H x2 0 (fun v1 => ld1 H x2 1 (fun v2 => AC Tryz.prog T0 95 [(Value.agg ⟨[(Value.int .i64 v1), v2]⟩), x1] H (fun v3 H4 => asB v3 (fun v5 => P (Value.tuple ⟨[(Value.bool v5), (Value.int .i64 0)]⟩) H4))))
theorem q1 (P : PT) : QB Tryz.prog T0 16 o1 (ret P) k0 (B1 P) := fun _ _ _ _  => by kernel_rfl
abbrev k1 : Sk := [(6,.i .i64)]
noncomputable def o2 := ob Tryz.f38 [.r,.l,.r,.r,.l,.l]
def B2 (P : PT) (x6 : Int) (H : AHeap) : Prop :=
  P (Value.tuple ⟨[(Value.bool false), (Value.int .i64 x6)]⟩) H
theorem q2 (P : PT) : QB Tryz.prog T0 16 o2 (ret P) k1 (B2 P) := fun _ _ _  => by kernel_rfl
abbrev k2 : Sk := [(1,.v),(2,.x),(6,.i .i64)]
noncomputable def o3 := ob Tryz.f38 [.r,.l,.r,.l]
def B3 (P : PT) (x1 : Value) (x2 : Nat) (x6 : Int) (H : AHeap) : Prop :=
  pif ((x6 : Int) != 0) (B2 P x6 H) (B1 P x1 x2 H)
theorem q3 (P : PT) : QB Tryz.prog T0 16 o3 (cnd 11 (En 16 k1 (B2 P)) (En 16 k0 (B1 P))) k2 (B3 P) := fun _ _ _ _ _  => by kernel_rfl
noncomputable def o4 := ob Tryz.f38 [.r,.l,.l]
def B4 (P : PT) (x1 : Value) (x2 : Nat) (H : AHeap) : Prop :=
  ldI .i64 H x2 0 (fun v1 => ld1 H x2 1 (fun v2 => AC Tryz.prog T0 104 [(Value.agg ⟨[(Value.int .i64 v1), v2]⟩), x1] H (fun v3 H4 => asI .i64 v3 (fun v5 => B3 P x1 x2 v5 H4))))
theorem q4 (P : PT) : QB Tryz.prog T0 16 o4 (En 16 k2 (B3 P)) k0 (B4 P) := fun _ _ _ _  => by kernel_rfl
abbrev k3 : Sk := [(0,.g [.i,.v]),(1,.v)]
noncomputable def o5 := ob Tryz.f38 [.l]
def B5 (P : PT) (x0a : Int) (x0b x1 : Value) (H : AHeap) : Prop :=
  newK H [(Value.int .i64 x0a), x0b] 26 (fun b1 H2 => B4 P x1 b1 H2)
theorem q5 (P : PT) : QB Tryz.prog T0 16 o5 (En 16 k0 (B4 P)) k3 (B5 P) := fun _ _ _ _ _  => by kernel_rfl
noncomputable def code : Code := (.seq (.region 0 ⟨o5⟩ false) (.seq (.seq (.region 1 ⟨o4⟩ false) (.seq (.region 2 ⟨o3⟩ false) (.cond (.tmp 11) (.seq (.region 3 ⟨o2⟩ false) .ret) .skip))) (.seq (.region 4 ⟨o1⟩ false) .ret)))
theorem body : Tryz.f38.body = some code := by kernel_rfl
theorem main (P : PT) : ∀ env H, (En 16 k3 (B5 P)) env H → AW Tryz.prog T0 code env H (mkQ (ret P) (fun _ _ _ => False) (ret P)) :=
  (r_seq (rB T0_ok (q5 P)) (r_seq (r_seq (rB T0_ok (q4 P)) (r_seq (rB T0_ok (q3 P)) (r_cond rfl (r_seq (rB T0_ok (q2 P)) r_ret) r_skip))) (r_seq (rB T0_ok (q1 P)) r_ret)))
theorem ac (P : PT) (x0a : Int) (x0b x1 : Value) (H : AHeap) (h : B5 P x0a x0b x1 H) : AC Tryz.prog T0 38 [(Value.agg ⟨[(Value.int .i64 x0a), x0b]⟩), x1] H P :=
  r_fn T0_ok (c := code) (n := 16) Tryz.func38 body (by kernel_rfl) (main P) (En_mk (x0a, x0b, x1, ()) (by kernel_rfl) ⟨by kernel_rfl, by kernel_rfl, trivial⟩ h)

end F38
-- loop.example/g01329/spec.l01From
namespace F65
noncomputable def ret (P : PT) : EP := retE T0 38 Tryz.f65 P
abbrev k0 : Sk := [(3,.v)]
noncomputable def o1 := ob Tryz.f65 [.r,.r,.r,.l]
def B1 (P : PT) (x3 : Value) (H : AHeap) : Prop :=
  P x3 H
theorem q1 (P : PT) : QB Tryz.prog T0 38 o1 (ret P) k0 (B1 P) := fun _ _ _  => by kernel_rfl
abbrev k1 : Sk := [(0,.v),(3,.v),(4,.i .i64)]
noncomputable def o3 := ob Tryz.f65 [.r,.r,.l,.r,.l,.l,.r,.r]
def B3 (P : PT) (N2 : NTy k1 Pr) (x0 x3 : Value) (x4 : Int) (H : AHeap) : Prop :=
  N2 x0 x3 (IntKind.i64.wrap (x4 + 1)) H
theorem q3 (P : PT) (N2 : NTy k1 Pr) : QB Tryz.prog T0 38 o3 (En 38 k1 N2) k1 (B3 P N2) := fun _ _ _ _ _  => by kernel_rfl
noncomputable def o4 := ob Tryz.f65 [.r,.r,.l,.r,.l,.l,.r,.l,.l]
def B4 (P : PT) (N2 : NTy k1 Pr) (x0 x3 : Value) (x4 : Int) (H : AHeap) : Prop :=
  nilK x3 (fun v1 => asP v1 (fun b2 o3 => ldI .u64 H b2 (o3 + 2) (fun v4 => idxK x0 x4 1 (fun b5 o6 => ldI .u8 H b5 o6 (fun v7 => nilK x3 (fun v8 => asP v8 (fun b9 o10 => stK H b9 (o10 + 2) [(Value.int .u64 (IntKind.u64.wrap ((IntKind.u64.wrap ((IntKind.u64.wrap (v4 * 1099511628211)) + (IntKind.u64.wrap v7))) + 151)))] (fun H11 => B3 P N2 x0 x3 x4 H11))))))))
theorem q4 (P : PT) (N2 : NTy k1 Pr) : QD Tryz.prog T0 38 o4 [(0, false), (1, false), (2, false), (3, false), (4, false), (5, false), (6, false), (7, false), (8, false), (9, false), (10, false), (11, false), (12, false), (13, false), (14, false), (15, false)] (En 38 k1 (B3 P N2)) k1 (B4 P N2) := fun _ _ _ _ _  => by kernel_rfl
noncomputable def o5 := ob Tryz.f65 [.r,.r,.l,.r,.l,.l,.l,.l]
def B5 (P : PT) (N2 : NTy k1 Pr) (x0 x3 : Value) (x4 : Int) (H : AHeap) : Prop :=
  lenK x0 (fun n1 => pif (decide ((x4 : Int) < (n1 : Int))) (pif (decide ((x4 : Int) < 4096)) (B4 P N2 x0 x3 x4 H) (B1 P x3 H)) (B1 P x3 H))
theorem q5 (P : PT) (N2 : NTy k1 Pr) : QB Tryz.prog T0 38 o5 (cnd 19 (En 38 k1 (B4 P N2)) (En 38 k0 (B1 P))) k1 (B5 P N2) := fun _ _ _ _ _  => by kernel_rfl
def L2 (P : PT) (x0 x3 : Value) (x4 : Int) (H : AHeap) : Prop :=
  ∃ (I : NTy k1 Pr) (μ : NTy k1 (AHeap → Nat)), I x0 x3 x4 H ∧ ∀ y0 y3 y4 G, I y0 y3 y4 G → B5 P (fun z0 z3 z4 G' => I z0 z3 z4 G' ∧ μ z0 z3 z4 G' < μ y0 y3 y4 G) y0 y3 y4 G
theorem l2 (P : PT) : LQ k1 (L2 P) (B5 P) := fun ⟨_,_,_,_⟩ _ ⟨I, μ, h0, hI⟩ => ⟨apT _ I, apT _ μ, h0, fun ⟨_,_,_,_⟩ _ h => hI _ _ _ _  h⟩
abbrev k2 : Sk := [(0,.v),(3,.v)]
noncomputable def o6 := ob Tryz.f65 [.r,.r,.l,.l]
def B6 (P : PT) (x0 x3 : Value) (H : AHeap) : Prop :=
  L2 P x0 x3 0 H
theorem q6 (P : PT) : QB Tryz.prog T0 38 o6 (En 38 k1 (L2 P)) k2 (B6 P) := fun _ _ _ _  => by kernel_rfl
abbrev k3 : Sk := [(0,.v)]
noncomputable def o7 := ob Tryz.f65 [.r,.l]
def B7 (P : PT) (x0 : Value) (H : AHeap) : Prop :=
  lenK x0 (fun n1 => pif (Value.oneCell' x0) (newK H [x0, (Value.int .i64 0), (Value.int .u64 (IntKind.u64.wrap (13291 + (IntKind.u64.wrap (n1 : Int)))))] 131 (fun b2 H3 => B6 P x0 (Value.pointer (some ⟨b2, 0, none⟩)) H3)) False)
theorem q7 (P : PT) : QB Tryz.prog T0 38 o7 (En 38 k2 (B6 P)) k3 (B7 P) := fun _ _ _  => by kernel_rfl
noncomputable def o8 := ob Tryz.f65 [.l]
def B8 (P : PT) (x0 : Value) (H : AHeap) : Prop :=
  B7 P x0 H
theorem q8 (P : PT) : QB Tryz.prog T0 38 o8 (En 38 k3 (B7 P)) k3 (B8 P) := fun _ _ _  => by kernel_rfl
noncomputable def code : Code := (.seq (.region 0 ⟨o8⟩ false) (.seq (.region 1 ⟨o7⟩ false) (.seq (.seq (.region 2 ⟨o6⟩ false) (.block 0 (.loop (.seq (.seq (.region 3 ⟨o5⟩ false) (.cond (.tmp 19) .skip (.exit 0))) (.seq (.block 1 (.region 5 ⟨o4⟩ true)) (.region 4 ⟨o3⟩ false)))))) (.seq (.region 6 ⟨o1⟩ false) .ret))))
theorem body : Tryz.f65.body = some code := by kernel_rfl
theorem main (P : PT) : ∀ env H, (En 38 k3 (B8 P)) env H → AW Tryz.prog T0 code env H (mkQ (ret P) (fun _ _ _ => False) (ret P)) :=
  (r_seq (rB T0_ok (q8 P)) (r_seq (rB T0_ok (q7 P)) (r_seq (r_seq (rB T0_ok (q6 P)) (r_block (rL (l2 P) (fun N2 => (r_seq (r_seq (rB T0_ok (q5 P N2)) (r_cond rfl r_skip (r_exit (fun _ _ h => h)))) (r_seq (r_block (rD T0_ok mixed [(0, false), (1, false), (2, false), (3, false), (4, false), (5, false), (6, false), (7, false), (8, false), (9, false), (10, false), (11, false), (12, false), (13, false), (14, false), (15, false)] (by kernel_rfl) (q4 P N2))) (rB T0_ok (q3 P N2)))))))) (r_seq (rB T0_ok (q1 P)) r_ret))))
theorem ac (P : PT) (x0 : Value) (H : AHeap) (h : B8 P x0 H) : AC Tryz.prog T0 65 [x0] H P :=
  r_fn T0_ok (c := code) (n := 38) Tryz.func65 body (by kernel_rfl) (main P) (En_mk (x0, ()) (by kernel_rfl) ⟨by kernel_rfl, trivial⟩ h)

end F65
-- loop.example/g01329/spec.l01Next
namespace F66
noncomputable def ret (P : PT) : EP := retE T0 58 Tryz.f66 P
abbrev k0 : Sk := [(1,.i .i64),(5,.i .i64)]
noncomputable def o1 := ob Tryz.f66 [.r,.r,.r,.r,.r,.l]
def B1 (P : PT) (x1 x5 : Int) (H : AHeap) : Prop :=
  nzK x1 (P (Value.int .i64 (Int.tmod x5 x1)) H)
theorem q1 (P : PT) : QB Tryz.prog T0 58 o1 (ret P) k0 (B1 P) := fun _ _ _ _  => by kernel_rfl
abbrev k1 : Sk := [(0,.v),(1,.i .i64),(5,.i .i64)]
noncomputable def o2 := ob Tryz.f66 [.r,.r,.r,.r,.l,.r,.l,.r]
def B2 (P : PT) (x0 : Value) (x1 x5 : Int) (H : AHeap) : Prop :=
  nilK x0 (fun v1 => asP v1 (fun b2 o3 => ldI .i64 H b2 (o3 + 1) (fun v4 => nilK x0 (fun v5 => asP v5 (fun b6 o7 => stK H b6 (o7 + 1) [(Value.int .i64 (IntKind.i64.wrap (v4 + 1)))] (fun H8 => B1 P x1 x5 H8))))))
theorem q2 (P : PT) : QB Tryz.prog T0 58 o2 (En 58 k0 (B1 P)) k1 (B2 P) := fun _ _ _ _ _  => by kernel_rfl
noncomputable def o3 := ob Tryz.f66 [.r,.r,.r,.r,.l,.r,.l,.l]
def B3 (P : PT) (x0 : Value) (x1 x5 : Int) (H : AHeap) : Prop :=
  nilK x0 (fun v1 => asP v1 (fun b2 o3 => ld1 H b2 o3 (fun v4 => nilK x0 (fun v5 => asP v5 (fun b6 o7 => ldI .i64 H b6 (o7 + 1) (fun v8 => idxK v4 v8 1 (fun b9 o10 => ldI .u8 H b9 o10 (fun v11 => B2 P x0 x1 (IntKind.i64.wrap (x5 + (IntKind.i64.wrap v11))) H))))))))
theorem q3 (P : PT) : QD Tryz.prog T0 58 o3 [(0, false), (1, false), (2, false), (3, false), (4, false), (5, false), (6, false), (7, false), (8, false), (9, false), (10, false), (11, false), (12, false), (13, false)] (En 58 k1 (B2 P)) k1 (B3 P) := fun _ _ _ _ _  => by kernel_rfl
noncomputable def o4 := ob Tryz.f66 [.r,.r,.r,.r,.l,.l]
def B4 (P : PT) (x0 : Value) (x1 x5 : Int) (H : AHeap) : Prop :=
  nilK x0 (fun v1 => asP v1 (fun b2 o3 => ldI .i64 H b2 (o3 + 1) (fun v4 => nilK x0 (fun v5 => asP v5 (fun b6 o7 => ld1 H b6 o7 (fun v8 => lenK v8 (fun n9 => pif (decide ((v4 : Int) < (n9 : Int))) (B3 P x0 x1 x5 H) (B1 P x1 x5 H))))))))
theorem q4 (P : PT) : QD Tryz.prog T0 58 o4 [(0, false), (1, false), (2, false), (3, false), (4, false), (5, false), (6, false), (7, false), (8, false), (9, false)] (cnd 33 (En 58 k1 (B3 P)) (En 58 k0 (B1 P))) k1 (B4 P) := fun _ _ _ _ _  => by kernel_rfl
abbrev k2 : Sk := [(0,.v),(1,.i .i64)]
noncomputable def o5 := ob Tryz.f66 [.r,.r,.r,.l]
def B5 (P : PT) (x0 : Value) (x1 : Int) (H : AHeap) : Prop :=
  nilK x0 (fun v1 => asP v1 (fun b2 o3 => ldI .u64 H b2 (o3 + 2) (fun v4 => ((0 : Int) ≤ 33) ∧ (B4 P x0 x1 (IntKind.i64.wrap (IntKind.u64.wrap (BitVec.ofInt 64 (Int.fdiv v4 (2 ^ (min (Int.toNat 33) 64))) &&& BitVec.ofInt 64 16777215).toNat)) H))))
theorem q5 (P : PT) : QB Tryz.prog T0 58 o5 (En 58 k1 (B4 P)) k2 (B5 P) := fun _ _ _ _  => by kernel_rfl
noncomputable def o6 := ob Tryz.f66 [.r,.r,.l]
def B6 (P : PT) (x0 : Value) (x1 : Int) (H : AHeap) : Prop :=
  nilK x0 (fun v1 => asP v1 (fun b2 o3 => ldI .u64 H b2 (o3 + 2) (fun v4 => nilK x0 (fun v5 => asP v5 (fun b6 o7 => stK H b6 (o7 + 2) [(Value.int .u64 (IntKind.u64.wrap ((IntKind.u64.wrap (v4 * 6364136223846793005)) + 1442695040888963407)))] (fun H8 => B5 P x0 x1 H8))))))
theorem q6 (P : PT) : QB Tryz.prog T0 58 o6 (En 58 k2 (B5 P)) k2 (B6 P) := fun _ _ _ _  => by kernel_rfl
abbrev k3 : Sk := []
noncomputable def o7 := ob Tryz.f66 [.r,.l,.r,.l,.l]
def B7 (P : PT) (H : AHeap) : Prop :=
  P (Value.int .i64 0) H
theorem q7 (P : PT) : QB Tryz.prog T0 58 o7 (ret P) k3 (B7 P) := fun _ _  => by kernel_rfl
noncomputable def o8 := ob Tryz.f66 [.r,.l,.l]
def B8 (P : PT) (x0 : Value) (x1 : Int) (H : AHeap) : Prop :=
  pif (decide ((x1 : Int) < 1)) (B7 P H) (B6 P x0 x1 H)
theorem q8 (P : PT) : QB Tryz.prog T0 58 o8 (cnd 7 (En 58 k3 (B7 P)) (En 58 k2 (B6 P))) k2 (B8 P) := fun _ _ _ _  => by kernel_rfl
noncomputable def o9 := ob Tryz.f66 [.l]
def B9 (P : PT) (x0 : Value) (x1 : Int) (H : AHeap) : Prop :=
  B8 P x0 x1 H
theorem q9 (P : PT) : QB Tryz.prog T0 58 o9 (En 58 k2 (B8 P)) k2 (B9 P) := fun _ _ _ _  => by kernel_rfl
noncomputable def code : Code := (.seq (.region 0 ⟨o9⟩ false) (.seq (.seq (.region 1 ⟨o8⟩ false) (.cond (.tmp 7) (.seq (.region 2 ⟨o7⟩ false) .ret) .skip)) (.seq (.region 3 ⟨o6⟩ false) (.seq (.region 4 ⟨o5⟩ false) (.seq (.seq (.region 5 ⟨o4⟩ true) (.cond (.tmp 33) (.seq (.region 6 ⟨o3⟩ true) (.region 7 ⟨o2⟩ false)) .skip)) (.seq (.region 8 ⟨o1⟩ false) .ret))))))
theorem body : Tryz.f66.body = some code := by kernel_rfl
theorem main (P : PT) : ∀ env H, (En 58 k2 (B9 P)) env H → AW Tryz.prog T0 code env H (mkQ (ret P) (fun _ _ _ => False) (ret P)) :=
  (r_seq (rB T0_ok (q9 P)) (r_seq (r_seq (rB T0_ok (q8 P)) (r_cond rfl (r_seq (rB T0_ok (q7 P)) r_ret) r_skip)) (r_seq (rB T0_ok (q6 P)) (r_seq (rB T0_ok (q5 P)) (r_seq (r_seq (rD T0_ok mixed [(0, false), (1, false), (2, false), (3, false), (4, false), (5, false), (6, false), (7, false), (8, false), (9, false)] (by kernel_rfl) (q4 P)) (r_cond rfl (r_seq (rD T0_ok mixed [(0, false), (1, false), (2, false), (3, false), (4, false), (5, false), (6, false), (7, false), (8, false), (9, false), (10, false), (11, false), (12, false), (13, false)] (by kernel_rfl) (q3 P)) (rB T0_ok (q2 P))) r_skip)) (r_seq (rB T0_ok (q1 P)) r_ret))))))
theorem ac (P : PT) (x0 : Value) (x1 : Int) (H : AHeap) (h : B9 P x0 x1 H) : AC Tryz.prog T0 66 [x0, (Value.int .i64 x1)] H P :=
  r_fn T0_ok (c := code) (n := 58) Tryz.func66 body (by kernel_rfl) (main P) (En_mk (x0, x1, ()) (by kernel_rfl) ⟨by kernel_rfl, by kernel_rfl, trivial⟩ h)

end F66
-- loop.example/g01329/spec.l01Named
namespace F67
noncomputable def ret (P : PT) : EP := retE T0 228 Tryz.f67 P
abbrev k0 : Sk := [(2,.x)]
noncomputable def o1 := ob Tryz.f67 [.r,.r,.r,.l]
def B1 (P : PT) (x2 : Nat) (H : AHeap) : Prop :=
  stK H x2 0 [(Value.int .i64 0), (Value.slice none 0 0)] (fun H1 => ldI .i64 H1 x2 0 (fun v2 => ld1 H1 x2 1 (fun v3 => P (Value.tuple ⟨[(Value.agg ⟨[(Value.int .i64 v2), v3]⟩), (Value.bool false)]⟩) H1)))
theorem q1 (P : PT) : QB Tryz.prog T0 228 o1 (ret P) k0 (B1 P) := fun _ _ _  => by kernel_rfl
noncomputable def o2 := ob Tryz.f67 [.r,.r,.l,.r,.l,.r,.l,.l]
def B2 (P : PT) (x2 : Nat) (H : AHeap) : Prop :=
  newK H [(Value.int .i64 0), (Value.int .i64 1), (Value.int .i64 0), (Value.int .i64 1), (Value.int .i64 0), (Value.int .i64 1)] 78 (fun b1 H2 => AC Tryz.prog T0 141 [(Value.int .i64 2), (Value.slice (some ⟨b1, 0, none⟩) 3 (3 + 1))] H2 (fun v3 H4 => agg2 v3 (fun v5 v6 => asI .i64 v5 (fun v7 => stK H4 x2 0 [(Value.int .i64 v7), v6] (fun H9 => ldI .i64 H9 x2 0 (fun v10 => ld1 H9 x2 1 (fun v11 => P (Value.tuple ⟨[(Value.agg ⟨[(Value.int .i64 v10), v11]⟩), (Value.bool true)]⟩) H9)))))))
theorem q2 (P : PT) : QB Tryz.prog T0 228 o2 (ret P) k0 (B2 P) := fun _ _ _  => by kernel_rfl
noncomputable def o3 := ob Tryz.f67 [.r,.r,.l,.r,.l,.r,.r,.r,.l,.l]
def B3 (P : PT) (x2 : Nat) (H : AHeap) : Prop :=
  newK H [(Value.int .i64 0), (Value.int .i64 1), (Value.int .i64 0), (Value.int .i64 2), (Value.int .i64 0), (Value.int .i64 3), (Value.int .i64 1), (Value.int .i64 2), (Value.int .i64 1), (Value.int .i64 3), (Value.int .i64 2), (Value.int .i64 3)] 78 (fun b1 H2 => AC Tryz.prog T0 141 [(Value.int .i64 4), (Value.slice (some ⟨b1, 0, none⟩) 6 (6 + 1))] H2 (fun v3 H4 => agg2 v3 (fun v5 v6 => asI .i64 v5 (fun v7 => stK H4 x2 0 [(Value.int .i64 v7), v6] (fun H9 => ldI .i64 H9 x2 0 (fun v10 => ld1 H9 x2 1 (fun v11 => P (Value.tuple ⟨[(Value.agg ⟨[(Value.int .i64 v10), v11]⟩), (Value.bool true)]⟩) H9)))))))
theorem q3 (P : PT) : QB Tryz.prog T0 228 o3 (ret P) k0 (B3 P) := fun _ _ _  => by kernel_rfl
abbrev k1 : Sk := [(2,.x),(4,.v)]
noncomputable def o4 := ob Tryz.f67 [.r,.r,.l,.r,.l,.r,.r,.r,.r,.r,.l,.r,.l]
def B4 (P : PT) (x2 : Nat) (x4 : Value) (H : AHeap) : Prop :=
  AC Tryz.prog T0 141 [(Value.int .i64 6), x4] H (fun v1 H2 => agg2 v1 (fun v3 v4 => asI .i64 v3 (fun v5 => stK H2 x2 0 [(Value.int .i64 v5), v4] (fun H7 => ldI .i64 H7 x2 0 (fun v8 => ld1 H7 x2 1 (fun v9 => P (Value.tuple ⟨[(Value.agg ⟨[(Value.int .i64 v8), v9]⟩), (Value.bool true)]⟩) H7))))))
theorem q4 (P : PT) : QB Tryz.prog T0 228 o4 (ret P) k1 (B4 P) := fun _ _ _ _  => by kernel_rfl
abbrev k2 : Sk := [(2,.x),(4,.v),(5,.i .i64)]
noncomputable def o6 := ob Tryz.f67 [.r,.r,.l,.r,.l,.r,.r,.r,.r,.r,.l,.l,.r,.l,.l,.r,.r]
def B6 (P : PT) (N5 : NTy k2 Pr) (x2 : Nat) (x4 : Value) (x5 : Int) (H : AHeap) : Prop :=
  N5 x2 x4 (IntKind.i64.wrap (x5 + 1)) H
theorem q6 (P : PT) (N5 : NTy k2 Pr) : QB Tryz.prog T0 228 o6 (En 228 k2 N5) k2 (B6 P N5) := fun _ _ _ _ _  => by kernel_rfl
noncomputable def o7 := ob Tryz.f67 [.r,.r,.l,.r,.l,.r,.r,.r,.r,.r,.l,.l,.r,.l,.l,.r,.l,.l]
def B7 (P : PT) (N5 : NTy k2 Pr) (x2 : Nat) (x4 : Value) (x5 : Int) (H : AHeap) : Prop :=
  newK H [(Value.int .i64 x5), (Value.int .i64 3), (Value.int .i64 x5), (Value.int .i64 4), (Value.int .i64 x5), (Value.int .i64 5)] 78 (fun b1 H2 => apK T0 78 H2 x4 (Value.slice (some ⟨b1, 0, none⟩) 3 (3 + 1)) (fun v3 H4 => B6 P N5 x2 v3 x5 H4))
theorem q7 (P : PT) (N5 : NTy k2 Pr) : QB Tryz.prog T0 228 o7 (En 228 k2 (B6 P N5)) k2 (B7 P N5) := fun _ _ _ _ _  => by kernel_rfl
noncomputable def o8 := ob Tryz.f67 [.r,.r,.l,.r,.l,.r,.r,.r,.r,.r,.l,.l,.r,.l,.l,.l,.l]
def B8 (P : PT) (N5 : NTy k2 Pr) (x2 : Nat) (x4 : Value) (x5 : Int) (H : AHeap) : Prop :=
  pif (decide ((x5 : Int) < 3)) (B7 P N5 x2 x4 x5 H) (B4 P x2 x4 H)
theorem q8 (P : PT) (N5 : NTy k2 Pr) : QB Tryz.prog T0 228 o8 (cnd 36 (En 228 k2 (B7 P N5)) (En 228 k1 (B4 P))) k2 (B8 P N5) := fun _ _ _ _ _  => by kernel_rfl
def L5 (P : PT) (x2 : Nat) (x4 : Value) (x5 : Int) (H : AHeap) : Prop :=
  ∃ (I : NTy k2 Pr) (μ : NTy k2 (AHeap → Nat)), I x2 x4 x5 H ∧ ∀ y2 y4 y5 G, I y2 y4 y5 G → B8 P (fun z2 z4 z5 G' => I z2 z4 z5 G' ∧ μ z2 z4 z5 G' < μ y2 y4 y5 G) y2 y4 y5 G
theorem l5 (P : PT) : LQ k2 (L5 P) (B8 P) := fun ⟨_,_,_,_⟩ _ ⟨I, μ, h0, hI⟩ => ⟨apT _ I, apT _ μ, h0, fun ⟨_,_,_,_⟩ _ h => hI _ _ _ _  h⟩
noncomputable def o9 := ob Tryz.f67 [.r,.r,.l,.r,.l,.r,.r,.r,.r,.r,.l,.l,.l]
def B9 (P : PT) (x2 : Nat) (x4 : Value) (H : AHeap) : Prop :=
  L5 P x2 x4 0 H
theorem q9 (P : PT) : QB Tryz.prog T0 228 o9 (En 228 k2 (L5 P)) k1 (B9 P) := fun _ _ _ _  => by kernel_rfl
noncomputable def o10 := ob Tryz.f67 [.r,.r,.l,.r,.l,.r,.r,.r,.r,.r,.r,.r,.l,.r,.l]
def B10 (P : PT) (x2 : Nat) (x4 : Value) (H : AHeap) : Prop :=
  newK H [(Value.int .i64 0), (Value.int .i64 3), (Value.int .i64 1), (Value.int .i64 4), (Value.int .i64 2), (Value.int .i64 5)] 78 (fun b1 H2 => apK T0 78 H2 x4 (Value.slice (some ⟨b1, 0, none⟩) 3 (3 + 1)) (fun v3 H4 => AC Tryz.prog T0 141 [(Value.int .i64 6), v3] H4 (fun v5 H6 => agg2 v5 (fun v7 v8 => asI .i64 v7 (fun v9 => stK H6 x2 0 [(Value.int .i64 v9), v8] (fun H11 => ldI .i64 H11 x2 0 (fun v12 => ld1 H11 x2 1 (fun v13 => P (Value.tuple ⟨[(Value.agg ⟨[(Value.int .i64 v12), v13]⟩), (Value.bool true)]⟩) H11))))))))
theorem q10 (P : PT) : QB Tryz.prog T0 228 o10 (ret P) k1 (B10 P) := fun _ _ _ _  => by kernel_rfl
noncomputable def o11 := ob Tryz.f67 [.r,.r,.l,.r,.l,.r,.r,.r,.r,.r,.r,.r,.l,.l]
def B11 (P : PT) (x2 : Nat) (x4 : Value) (H : AHeap) : Prop :=
  newK H [(Value.int .i64 0), (Value.int .i64 1), (Value.int .i64 2)] 2 (fun b1 H2 => AC Tryz.prog T0 142 [x4, (Value.slice (some ⟨b1, 0, none⟩) 3 (3 + 1))] H2 (fun v3 H4 => newK H4 [(Value.int .i64 3), (Value.int .i64 4), (Value.int .i64 5)] 2 (fun b6 H7 => AC Tryz.prog T0 142 [v3, (Value.slice (some ⟨b6, 0, none⟩) 3 (3 + 1))] H7 (fun v8 H9 => B10 P x2 v8 H9))))
theorem q11 (P : PT) : QB Tryz.prog T0 228 o11 (En 228 k1 (B10 P)) k1 (B11 P) := fun _ _ _ _  => by kernel_rfl
noncomputable def o12 := ob Tryz.f67 [.r,.r,.l,.r,.l,.r,.r,.r,.r,.r,.r,.r,.r,.r,.l,.r,.l]
def B12 (P : PT) (x2 : Nat) (x4 : Value) (H : AHeap) : Prop :=
  AC Tryz.prog T0 141 [(Value.int .i64 8), x4] H (fun v1 H2 => agg2 v1 (fun v3 v4 => asI .i64 v3 (fun v5 => stK H2 x2 0 [(Value.int .i64 v5), v4] (fun H7 => ldI .i64 H7 x2 0 (fun v8 => ld1 H7 x2 1 (fun v9 => P (Value.tuple ⟨[(Value.agg ⟨[(Value.int .i64 v8), v9]⟩), (Value.bool true)]⟩) H7))))))
theorem q12 (P : PT) : QB Tryz.prog T0 228 o12 (ret P) k1 (B12 P) := fun _ _ _ _  => by kernel_rfl
abbrev k3 : Sk := [(2,.x),(4,.v),(6,.i .i64)]
noncomputable def o14 := ob Tryz.f67 [.r,.r,.l,.r,.l,.r,.r,.r,.r,.r,.r,.r,.r,.r,.l,.l,.r,.l,.l,.r,.r]
def B14 (P : PT) (N13 : NTy k3 Pr) (x2 : Nat) (x4 : Value) (x6 : Int) (H : AHeap) : Prop :=
  N13 x2 x4 (IntKind.i64.wrap (x6 + 1)) H
theorem q14 (P : PT) (N13 : NTy k3 Pr) : QB Tryz.prog T0 228 o14 (En 228 k3 N13) k3 (B14 P N13) := fun _ _ _ _ _  => by kernel_rfl
abbrev k4 : Sk := [(2,.x),(4,.v),(6,.i .i64),(7,.i .i64)]
noncomputable def o16 := ob Tryz.f67 [.r,.r,.l,.r,.l,.r,.r,.r,.r,.r,.r,.r,.r,.r,.l,.l,.r,.l,.l,.r,.l,.l,.r,.l,.l,.r,.r]
def B16 (P : PT) (N13 : NTy k3 Pr) (N15 : NTy k4 Pr) (x2 : Nat) (x4 : Value) (x6 x7 : Int) (H : AHeap) : Prop :=
  N15 x2 x4 x6 (IntKind.i64.wrap (2 * x7)) H
theorem q16 (P : PT) (N13 : NTy k3 Pr) (N15 : NTy k4 Pr) : QB Tryz.prog T0 228 o16 (En 228 k4 N15) k4 (B16 P N13 N15) := fun _ _ _ _ _ _  => by kernel_rfl
noncomputable def o17 := ob Tryz.f67 [.r,.r,.l,.r,.l,.r,.r,.r,.r,.r,.r,.r,.r,.r,.l,.l,.r,.l,.l,.r,.l,.l,.r,.l,.l,.r,.l,.l,.r,.l]
def B17 (P : PT) (N13 : NTy k3 Pr) (N15 : NTy k4 Pr) (x2 : Nat) (x4 : Value) (x6 x7 : Int) (H : AHeap) : Prop :=
  newK H [(Value.int .i64 x6), (Value.int .i64 (IntKind.i64.wrap (x6 + x7)))] 78 (fun b1 H2 => apK T0 78 H2 x4 (Value.slice (some ⟨b1, 0, none⟩) 1 (1 + 1)) (fun v3 H4 => B16 P N13 N15 x2 v3 x6 x7 H4))
theorem q17 (P : PT) (N13 : NTy k3 Pr) (N15 : NTy k4 Pr) : QB Tryz.prog T0 228 o17 (En 228 k4 (B16 P N13 N15)) k4 (B17 P N13 N15) := fun _ _ _ _ _ _  => by kernel_rfl
noncomputable def o18 := ob Tryz.f67 [.r,.r,.l,.r,.l,.r,.r,.r,.r,.r,.r,.r,.r,.r,.l,.l,.r,.l,.l,.r,.l,.l,.r,.l,.l,.r,.l,.l,.l]
def B18 (P : PT) (N13 : NTy k3 Pr) (N15 : NTy k4 Pr) (x2 : Nat) (x4 : Value) (x6 x7 : Int) (H : AHeap) : Prop :=
  pif ((IntKind.i64.wrap (BitVec.ofInt 64 x6 &&& BitVec.ofInt 64 x7).toNat : Int) == 0) (B17 P N13 N15 x2 x4 x6 x7 H) (B16 P N13 N15 x2 x4 x6 x7 H)
theorem q18 (P : PT) (N13 : NTy k3 Pr) (N15 : NTy k4 Pr) : QB Tryz.prog T0 228 o18 (cnd 77 (En 228 k4 (B17 P N13 N15)) (En 228 k4 (B16 P N13 N15))) k4 (B18 P N13 N15) := fun _ _ _ _ _ _  => by kernel_rfl
noncomputable def o19 := ob Tryz.f67 [.r,.r,.l,.r,.l,.r,.r,.r,.r,.r,.r,.r,.r,.r,.l,.l,.r,.l,.l,.r,.l,.l,.r,.l,.l,.l,.l]
def B19 (P : PT) (N13 : NTy k3 Pr) (N15 : NTy k4 Pr) (x2 : Nat) (x4 : Value) (x6 x7 : Int) (H : AHeap) : Prop :=
  pif (decide ((x7 : Int) < 8)) (B18 P N13 N15 x2 x4 x6 x7 H) (B14 P N13 x2 x4 x6 H)
theorem q19 (P : PT) (N13 : NTy k3 Pr) (N15 : NTy k4 Pr) : QB Tryz.prog T0 228 o19 (cnd 71 (En 228 k4 (B18 P N13 N15)) (En 228 k3 (B14 P N13))) k4 (B19 P N13 N15) := fun _ _ _ _ _ _  => by kernel_rfl
def L15 (P : PT) (N13 : NTy k3 Pr) (x2 : Nat) (x4 : Value) (x6 x7 : Int) (H : AHeap) : Prop :=
  ∃ (I : NTy k4 Pr) (μ : NTy k4 (AHeap → Nat)), I x2 x4 x6 x7 H ∧ ∀ y2 y4 y6 y7 G, I y2 y4 y6 y7 G → B19 P N13 (fun z2 z4 z6 z7 G' => I z2 z4 z6 z7 G' ∧ μ z2 z4 z6 z7 G' < μ y2 y4 y6 y7 G) y2 y4 y6 y7 G
theorem l15 (P : PT) (N13 : NTy k3 Pr) : LQ k4 (L15 P N13) (B19 P N13) := fun ⟨_,_,_,_,_⟩ _ ⟨I, μ, h0, hI⟩ => ⟨apT _ I, apT _ μ, h0, fun ⟨_,_,_,_,_⟩ _ h => hI _ _ _ _ _  h⟩
noncomputable def o20 := ob Tryz.f67 [.r,.r,.l,.r,.l,.r,.r,.r,.r,.r,.r,.r,.r,.r,.l,.l,.r,.l,.l,.r,.l,.l,.l]
def B20 (P : PT) (N13 : NTy k3 Pr) (x2 : Nat) (x4 : Value) (x6 : Int) (H : AHeap) : Prop :=
  L15 P N13 x2 x4 x6 1 H
theorem q20 (P : PT) (N13 : NTy k3 Pr) : QB Tryz.prog T0 228 o20 (En 228 k4 (L15 P N13)) k3 (B20 P N13) := fun _ _ _ _ _  => by kernel_rfl
noncomputable def o21 := ob Tryz.f67 [.r,.r,.l,.r,.l,.r,.r,.r,.r,.r,.r,.r,.r,.r,.l,.l,.r,.l,.l,.l,.l]
def B21 (P : PT) (N13 : NTy k3 Pr) (x2 : Nat) (x4 : Value) (x6 : Int) (H : AHeap) : Prop :=
  pif (decide ((x6 : Int) < 8)) (B20 P N13 x2 x4 x6 H) (B12 P x2 x4 H)
theorem q21 (P : PT) (N13 : NTy k3 Pr) : QB Tryz.prog T0 228 o21 (cnd 67 (En 228 k3 (B20 P N13)) (En 228 k1 (B12 P))) k3 (B21 P N13) := fun _ _ _ _ _  => by kernel_rfl
def L13 (P : PT) (x2 : Nat) (x4 : Value) (x6 : Int) (H : AHeap) : Prop :=
  ∃ (I : NTy k3 Pr) (μ : NTy k3 (AHeap → Nat)), I x2 x4 x6 H ∧ ∀ y2 y4 y6 G, I y2 y4 y6 G → B21 P (fun z2 z4 z6 G' => I z2 z4 z6 G' ∧ μ z2 z4 z6 G' < μ y2 y4 y6 G) y2 y4 y6 G
theorem l13 (P : PT) : LQ k3 (L13 P) (B21 P) := fun ⟨_,_,_,_⟩ _ ⟨I, μ, h0, hI⟩ => ⟨apT _ I, apT _ μ, h0, fun ⟨_,_,_,_⟩ _ h => hI _ _ _ _  h⟩
noncomputable def o22 := ob Tryz.f67 [.r,.r,.l,.r,.l,.r,.r,.r,.r,.r,.r,.r,.r,.r,.l,.l,.l]
def B22 (P : PT) (x2 : Nat) (x4 : Value) (H : AHeap) : Prop :=
  L13 P x2 x4 0 H
theorem q22 (P : PT) : QB Tryz.prog T0 228 o22 (En 228 k3 (L13 P)) k1 (B22 P) := fun _ _ _ _  => by kernel_rfl
noncomputable def o23 := ob Tryz.f67 [.r,.r,.l,.r,.l,.r,.r,.r,.r,.r,.r,.r,.r,.r,.r,.r,.l,.r,.l]
def B23 (P : PT) (x2 : Nat) (x4 : Value) (H : AHeap) : Prop :=
  AC Tryz.prog T0 141 [(Value.int .i64 10), x4] H (fun v1 H2 => agg2 v1 (fun v3 v4 => asI .i64 v3 (fun v5 => stK H2 x2 0 [(Value.int .i64 v5), v4] (fun H7 => ldI .i64 H7 x2 0 (fun v8 => ld1 H7 x2 1 (fun v9 => P (Value.tuple ⟨[(Value.agg ⟨[(Value.int .i64 v8), v9]⟩), (Value.bool true)]⟩) H7))))))
theorem q23 (P : PT) : QB Tryz.prog T0 228 o23 (ret P) k1 (B23 P) := fun _ _ _ _  => by kernel_rfl
abbrev k5 : Sk := [(2,.x),(4,.v),(8,.i .i64)]
noncomputable def o25 := ob Tryz.f67 [.r,.r,.l,.r,.l,.r,.r,.r,.r,.r,.r,.r,.r,.r,.r,.r,.l,.l,.r,.l,.l,.r,.r]
def B25 (P : PT) (N24 : NTy k5 Pr) (x2 : Nat) (x4 : Value) (x8 : Int) (H : AHeap) : Prop :=
  N24 x2 x4 (IntKind.i64.wrap (x8 + 1)) H
theorem q25 (P : PT) (N24 : NTy k5 Pr) : QB Tryz.prog T0 228 o25 (En 228 k5 N24) k5 (B25 P N24) := fun _ _ _ _ _  => by kernel_rfl
noncomputable def o26 := ob Tryz.f67 [.r,.r,.l,.r,.l,.r,.r,.r,.r,.r,.r,.r,.r,.r,.r,.r,.l,.l,.r,.l,.l,.r,.l,.l]
def B26 (P : PT) (N24 : NTy k5 Pr) (x2 : Nat) (x4 : Value) (x8 : Int) (H : AHeap) : Prop :=
  newK H [(Value.int .i64 x8), (Value.int .i64 (Int.tmod (IntKind.i64.wrap (x8 + 1)) 5)), (Value.int .i64 x8), (Value.int .i64 (IntKind.i64.wrap (x8 + 5))), (Value.int .i64 (IntKind.i64.wrap (x8 + 5))), (Value.int .i64 (IntKind.i64.wrap ((Int.tmod (IntKind.i64.wrap (x8 + 2)) 5) + 5)))] 78 (fun b1 H2 => apK T0 78 H2 x4 (Value.slice (some ⟨b1, 0, none⟩) 3 (3 + 1)) (fun v3 H4 => B25 P N24 x2 v3 x8 H4))
theorem q26 (P : PT) (N24 : NTy k5 Pr) : QB Tryz.prog T0 228 o26 (En 228 k5 (B25 P N24)) k5 (B26 P N24) := fun _ _ _ _ _  => by kernel_rfl
noncomputable def o27 := ob Tryz.f67 [.r,.r,.l,.r,.l,.r,.r,.r,.r,.r,.r,.r,.r,.r,.r,.r,.l,.l,.r,.l,.l,.l,.l]
def B27 (P : PT) (N24 : NTy k5 Pr) (x2 : Nat) (x4 : Value) (x8 : Int) (H : AHeap) : Prop :=
  pif (decide ((x8 : Int) < 5)) (B26 P N24 x2 x4 x8 H) (B23 P x2 x4 H)
theorem q27 (P : PT) (N24 : NTy k5 Pr) : QB Tryz.prog T0 228 o27 (cnd 91 (En 228 k5 (B26 P N24)) (En 228 k1 (B23 P))) k5 (B27 P N24) := fun _ _ _ _ _  => by kernel_rfl
def L24 (P : PT) (x2 : Nat) (x4 : Value) (x8 : Int) (H : AHeap) : Prop :=
  ∃ (I : NTy k5 Pr) (μ : NTy k5 (AHeap → Nat)), I x2 x4 x8 H ∧ ∀ y2 y4 y8 G, I y2 y4 y8 G → B27 P (fun z2 z4 z8 G' => I z2 z4 z8 G' ∧ μ z2 z4 z8 G' < μ y2 y4 y8 G) y2 y4 y8 G
theorem l24 (P : PT) : LQ k5 (L24 P) (B27 P) := fun ⟨_,_,_,_⟩ _ ⟨I, μ, h0, hI⟩ => ⟨apT _ I, apT _ μ, h0, fun ⟨_,_,_,_⟩ _ h => hI _ _ _ _  h⟩
noncomputable def o28 := ob Tryz.f67 [.r,.r,.l,.r,.l,.r,.r,.r,.r,.r,.r,.r,.r,.r,.r,.r,.l,.l,.l]
def B28 (P : PT) (x2 : Nat) (x4 : Value) (H : AHeap) : Prop :=
  L24 P x2 x4 0 H
theorem q28 (P : PT) : QB Tryz.prog T0 228 o28 (En 228 k5 (L24 P)) k1 (B28 P) := fun _ _ _ _  => by kernel_rfl
noncomputable def o29 := ob Tryz.f67 [.r,.r,.l,.r,.l,.r,.r,.r,.r,.r,.r,.r,.r,.r,.r,.r,.r,.r,.l,.r,.r,.r,.l]
def B29 (P : PT) (x2 : Nat) (x4 : Value) (H : AHeap) : Prop :=
  newK H [(Value.int .i64 0), (Value.int .i64 1), (Value.int .i64 10), (Value.int .i64 4), (Value.int .i64 11), (Value.int .i64 5)] 78 (fun b1 H2 => apK T0 78 H2 x4 (Value.slice (some ⟨b1, 0, none⟩) 3 (3 + 1)) (fun v3 H4 => AC Tryz.prog T0 141 [(Value.int .i64 12), v3] H4 (fun v5 H6 => agg2 v5 (fun v7 v8 => asI .i64 v7 (fun v9 => stK H6 x2 0 [(Value.int .i64 v9), v8] (fun H11 => ldI .i64 H11 x2 0 (fun v12 => ld1 H11 x2 1 (fun v13 => P (Value.tuple ⟨[(Value.agg ⟨[(Value.int .i64 v12), v13]⟩), (Value.bool true)]⟩) H11))))))))
theorem q29 (P : PT) : QB Tryz.prog T0 228 o29 (ret P) k1 (B29 P) := fun _ _ _ _  => by kernel_rfl
noncomputable def o30 := ob Tryz.f67 [.r,.r,.l,.r,.l,.r,.r,.r,.r,.r,.r,.r,.r,.r,.r,.r,.r,.r,.l,.r,.r,.l]
def B30 (P : PT) (x2 : Nat) (x4 : Value) (H : AHeap) : Prop :=
  newK H [(Value.int .i64 0), (Value.int .i64 10), (Value.int .i64 11)] 2 (fun b1 H2 => AC Tryz.prog T0 142 [x4, (Value.slice (some ⟨b1, 0, none⟩) 3 (3 + 1))] H2 (fun v3 H4 => B29 P x2 v3 H4))
theorem q30 (P : PT) : QB Tryz.prog T0 228 o30 (En 228 k1 (B29 P)) k1 (B30 P) := fun _ _ _ _  => by kernel_rfl
abbrev k6 : Sk := [(2,.x),(4,.v),(9,.x),(11,.i .i64)]
noncomputable def o32 := ob Tryz.f67 [.r,.r,.l,.r,.l,.r,.r,.r,.r,.r,.r,.r,.r,.r,.r,.r,.r,.r,.l,.r,.l,.r,.l,.l,.r,.r]
def B32 (P : PT) (N31 : NTy k6 Pr) (x2 : Nat) (x4 : Value) (x9 : Nat) (x11 : Int) (H : AHeap) : Prop :=
  N31 x2 x4 x9 (IntKind.i64.wrap (x11 + 1)) H
theorem q32 (P : PT) (N31 : NTy k6 Pr) : QB Tryz.prog T0 228 o32 (En 228 k6 N31) k6 (B32 P N31) := fun _ _ _ _ _ _  => by kernel_rfl
noncomputable def o33 := ob Tryz.f67 [.r,.r,.l,.r,.l,.r,.r,.r,.r,.r,.r,.r,.r,.r,.r,.r,.r,.r,.l,.r,.l,.r,.l,.l,.r,.l,.l,.r,.l]
def B33 (P : PT) (N31 : NTy k6 Pr) (x2 : Nat) (x4 : Value) (x9 : Nat) (x11 : Int) (H : AHeap) : Prop :=
  ld1 H x9 1 (fun v1 => idxK v1 x11 2 (fun b2 o3 => ldI .i64 H b2 o3 (fun v4 => ldI .i64 H b2 (o3 + 1) (fun v5 => newK H [(Value.int .i64 v4), (Value.int .i64 v5)] 78 (fun b6 H7 => apK T0 78 H7 x4 (Value.slice (some ⟨b6, 0, none⟩) 1 (1 + 1)) (fun v8 H9 => B32 P N31 x2 v8 x9 x11 H9))))))
theorem q33 (P : PT) (N31 : NTy k6 Pr) : QB Tryz.prog T0 228 o33 (En 228 k6 (B32 P N31)) k6 (B33 P N31) := fun _ _ _ _ _ _  => by kernel_rfl
noncomputable def o34 := ob Tryz.f67 [.r,.r,.l,.r,.l,.r,.r,.r,.r,.r,.r,.r,.r,.r,.r,.r,.r,.r,.l,.r,.l,.r,.l,.l,.r,.l,.l,.l]
def B34 (P : PT) (N31 : NTy k6 Pr) (x2 : Nat) (x4 : Value) (x9 : Nat) (x11 : Int) (H : AHeap) : Prop :=
  ld1 H x9 1 (fun v1 => idxK v1 x11 2 (fun b2 o3 => ldI .i64 H b2 o3 (fun v4 => pif ((v4 : Int) != 0) (B33 P N31 x2 x4 x9 x11 H) (B32 P N31 x2 x4 x9 x11 H))))
theorem q34 (P : PT) (N31 : NTy k6 Pr) : QB Tryz.prog T0 228 o34 (cnd 134 (En 228 k6 (B33 P N31)) (En 228 k6 (B32 P N31))) k6 (B34 P N31) := fun _ _ _ _ _ _  => by kernel_rfl
noncomputable def o35 := ob Tryz.f67 [.r,.r,.l,.r,.l,.r,.r,.r,.r,.r,.r,.r,.r,.r,.r,.r,.r,.r,.l,.r,.l,.r,.l,.l,.l,.l]
def B35 (P : PT) (N31 : NTy k6 Pr) (x2 : Nat) (x4 : Value) (x9 : Nat) (x11 : Int) (H : AHeap) : Prop :=
  ld1 H x9 1 (fun v1 => lenK v1 (fun n2 => pif (decide ((x11 : Int) < (n2 : Int))) (B34 P N31 x2 x4 x9 x11 H) (B30 P x2 x4 H)))
theorem q35 (P : PT) (N31 : NTy k6 Pr) : QB Tryz.prog T0 228 o35 (cnd 125 (En 228 k6 (B34 P N31)) (En 228 k1 (B30 P))) k6 (B35 P N31) := fun _ _ _ _ _ _  => by kernel_rfl
def L31 (P : PT) (x2 : Nat) (x4 : Value) (x9 : Nat) (x11 : Int) (H : AHeap) : Prop :=
  ∃ (I : NTy k6 Pr) (μ : NTy k6 (AHeap → Nat)), I x2 x4 x9 x11 H ∧ ∀ y2 y4 y9 y11 G, I y2 y4 y9 y11 G → B35 P (fun z2 z4 z9 z11 G' => I z2 z4 z9 z11 G' ∧ μ z2 z4 z9 z11 G' < μ y2 y4 y9 y11 G) y2 y4 y9 y11 G
theorem l31 (P : PT) : LQ k6 (L31 P) (B35 P) := fun ⟨_,_,_,_,_⟩ _ ⟨I, μ, h0, hI⟩ => ⟨apT _ I, apT _ μ, h0, fun ⟨_,_,_,_,_⟩ _ h => hI _ _ _ _ _  h⟩
abbrev k7 : Sk := [(2,.x),(4,.v),(9,.x)]
noncomputable def o36 := ob Tryz.f67 [.r,.r,.l,.r,.l,.r,.r,.r,.r,.r,.r,.r,.r,.r,.r,.r,.r,.r,.l,.r,.l,.l]
def B36 (P : PT) (x2 : Nat) (x4 : Value) (x9 : Nat) (H : AHeap) : Prop :=
  L31 P x2 x4 x9 0 H
theorem q36 (P : PT) : QB Tryz.prog T0 228 o36 (En 228 k6 (L31 P)) k7 (B36 P) := fun _ _ _ _ _  => by kernel_rfl
noncomputable def o37 := ob Tryz.f67 [.r,.r,.l,.r,.l,.r,.r,.r,.r,.r,.r,.r,.r,.r,.r,.r,.r,.r,.l,.l]
def B37 (P : PT) (x2 : Nat) (x4 : Value) (H : AHeap) : Prop :=
  AC Tryz.prog T0 67 [(Value.string (⟨#[112, 101, 116, 101, 114, 115, 101, 110]⟩))] H (fun v1 H2 => tup2 v1 (fun v3 v4 => agg2 v3 (fun v5 v6 => asI .i64 v5 (fun v7 => asB v4 (fun v9 => newK H2 [(Value.int .i64 0), (Value.slice none 0 0)] 26 (fun b10 H11 => stK H11 b10 0 [(Value.int .i64 v7), v6] (fun H12 => B36 P x2 x4 b10 H12)))))))
theorem q37 (P : PT) : QB Tryz.prog T0 228 o37 (En 228 k7 (B36 P)) k1 (B37 P) := fun _ _ _ _  => by kernel_rfl
noncomputable def o38 := ob Tryz.f67 [.r,.r,.l,.r,.l,.r,.r,.r,.r,.r,.r,.r,.r,.r,.r,.r,.r,.r,.r,.r,.l,.r,.r,.l]
def B38 (P : PT) (x2 : Nat) (x4 : Value) (H : AHeap) : Prop :=
  newK H [(Value.int .i64 10), (Value.int .i64 11), (Value.int .i64 12), (Value.int .i64 13), (Value.int .i64 14), (Value.int .i64 15), (Value.int .i64 16), (Value.int .i64 17), (Value.int .i64 18), (Value.int .i64 19)] 2 (fun b1 H2 => AC Tryz.prog T0 142 [x4, (Value.slice (some ⟨b1, 0, none⟩) 10 (10 + 1))] H2 (fun v3 H4 => AC Tryz.prog T0 141 [(Value.int .i64 20), v3] H4 (fun v6 H7 => agg2 v6 (fun v8 v9 => asI .i64 v8 (fun v10 => stK H7 x2 0 [(Value.int .i64 v10), v9] (fun H12 => ldI .i64 H12 x2 0 (fun v13 => ld1 H12 x2 1 (fun v14 => P (Value.tuple ⟨[(Value.agg ⟨[(Value.int .i64 v13), v14]⟩), (Value.bool true)]⟩) H12))))))))
theorem q38 (P : PT) : QB Tryz.prog T0 228 o38 (ret P) k1 (B38 P) := fun _ _ _ _  => by kernel_rfl
noncomputable def o39 := ob Tryz.f67 [.r,.r,.l,.r,.l,.r,.r,.r,.r,.r,.r,.r,.r,.r,.r,.r,.r,.r,.r,.r,.l,.r,.l]
def B39 (P : PT) (x2 : Nat) (x4 : Value) (H : AHeap) : Prop :=
  newK H [(Value.int .i64 5), (Value.int .i64 6), (Value.int .i64 7), (Value.int .i64 8), (Value.int .i64 9)] 2 (fun b1 H2 => AC Tryz.prog T0 142 [x4, (Value.slice (some ⟨b1, 0, none⟩) 5 (5 + 1))] H2 (fun v3 H4 => B38 P x2 v3 H4))
theorem q39 (P : PT) : QB Tryz.prog T0 228 o39 (En 228 k1 (B38 P)) k1 (B39 P) := fun _ _ _ _  => by kernel_rfl
abbrev k8 : Sk := [(2,.x),(4,.v),(12,.i .i64)]
noncomputable def o41 := ob Tryz.f67 [.r,.r,.l,.r,.l,.r,.r,.r,.r,.r,.r,.r,.r,.r,.r,.r,.r,.r,.r,.r,.l,.l,.r,.l,.l,.r,.r]
def B41 (P : PT) (N40 : NTy k8 Pr) (x2 : Nat) (x4 : Value) (x12 : Int) (H : AHeap) : Prop :=
  N40 x2 x4 (IntKind.i64.wrap (x12 + 1)) H
theorem q41 (P : PT) (N40 : NTy k8 Pr) : QB Tryz.prog T0 228 o41 (En 228 k8 N40) k8 (B41 P N40) := fun _ _ _ _ _  => by kernel_rfl
noncomputable def o42 := ob Tryz.f67 [.r,.r,.l,.r,.l,.r,.r,.r,.r,.r,.r,.r,.r,.r,.r,.r,.r,.r,.r,.r,.l,.l,.r,.l,.l,.r,.l,.l]
def B42 (P : PT) (N40 : NTy k8 Pr) (x2 : Nat) (x4 : Value) (x12 : Int) (H : AHeap) : Prop :=
  newK H [(Value.int .i64 x12), (Value.int .i64 (IntKind.i64.wrap (x12 + 5))), (Value.int .i64 x12), (Value.int .i64 (IntKind.i64.wrap (x12 + 10))), (Value.int .i64 x12), (Value.int .i64 (IntKind.i64.wrap (x12 + 15)))] 78 (fun b1 H2 => apK T0 78 H2 x4 (Value.slice (some ⟨b1, 0, none⟩) 3 (3 + 1)) (fun v3 H4 => B41 P N40 x2 v3 x12 H4))
theorem q42 (P : PT) (N40 : NTy k8 Pr) : QB Tryz.prog T0 228 o42 (En 228 k8 (B41 P N40)) k8 (B42 P N40) := fun _ _ _ _ _  => by kernel_rfl
noncomputable def o43 := ob Tryz.f67 [.r,.r,.l,.r,.l,.r,.r,.r,.r,.r,.r,.r,.r,.r,.r,.r,.r,.r,.r,.r,.l,.l,.r,.l,.l,.l,.l]
def B43 (P : PT) (N40 : NTy k8 Pr) (x2 : Nat) (x4 : Value) (x12 : Int) (H : AHeap) : Prop :=
  pif (decide ((x12 : Int) < 5)) (B42 P N40 x2 x4 x12 H) (B39 P x2 x4 H)
theorem q43 (P : PT) (N40 : NTy k8 Pr) : QB Tryz.prog T0 228 o43 (cnd 156 (En 228 k8 (B42 P N40)) (En 228 k1 (B39 P))) k8 (B43 P N40) := fun _ _ _ _ _  => by kernel_rfl
def L40 (P : PT) (x2 : Nat) (x4 : Value) (x12 : Int) (H : AHeap) : Prop :=
  ∃ (I : NTy k8 Pr) (μ : NTy k8 (AHeap → Nat)), I x2 x4 x12 H ∧ ∀ y2 y4 y12 G, I y2 y4 y12 G → B43 P (fun z2 z4 z12 G' => I z2 z4 z12 G' ∧ μ z2 z4 z12 G' < μ y2 y4 y12 G) y2 y4 y12 G
theorem l40 (P : PT) : LQ k8 (L40 P) (B43 P) := fun ⟨_,_,_,_⟩ _ ⟨I, μ, h0, hI⟩ => ⟨apT _ I, apT _ μ, h0, fun ⟨_,_,_,_⟩ _ h => hI _ _ _ _  h⟩
noncomputable def o44 := ob Tryz.f67 [.r,.r,.l,.r,.l,.r,.r,.r,.r,.r,.r,.r,.r,.r,.r,.r,.r,.r,.r,.r,.l,.l,.l]
def B44 (P : PT) (x2 : Nat) (x4 : Value) (H : AHeap) : Prop :=
  L40 P x2 x4 0 H
theorem q44 (P : PT) : QB Tryz.prog T0 228 o44 (En 228 k8 (L40 P)) k1 (B44 P) := fun _ _ _ _  => by kernel_rfl
noncomputable def o45 := ob Tryz.f67 [.r,.r,.l,.r,.l,.r,.r,.r,.r,.r,.r,.r,.r,.r,.r,.r,.r,.r,.r,.r,.r,.r,.l,.r,.l]
def B45 (P : PT) (x2 : Nat) (x4 : Value) (H : AHeap) : Prop :=
  newK H [(Value.int .i64 4), (Value.int .i64 9)] 78 (fun b1 H2 => apK T0 78 H2 x4 (Value.slice (some ⟨b1, 0, none⟩) 1 (1 + 1)) (fun v3 H4 => AC Tryz.prog T0 141 [(Value.int .i64 10), v3] H4 (fun v5 H6 => agg2 v5 (fun v7 v8 => asI .i64 v7 (fun v9 => stK H6 x2 0 [(Value.int .i64 v9), v8] (fun H11 => ldI .i64 H11 x2 0 (fun v12 => ld1 H11 x2 1 (fun v13 => P (Value.tuple ⟨[(Value.agg ⟨[(Value.int .i64 v12), v13]⟩), (Value.bool true)]⟩) H11))))))))
theorem q45 (P : PT) : QB Tryz.prog T0 228 o45 (ret P) k1 (B45 P) := fun _ _ _ _  => by kernel_rfl
abbrev k9 : Sk := [(2,.x),(4,.v),(13,.i .i64)]
noncomputable def o47 := ob Tryz.f67 [.r,.r,.l,.r,.l,.r,.r,.r,.r,.r,.r,.r,.r,.r,.r,.r,.r,.r,.r,.r,.r,.r,.l,.l,.r,.l,.l,.r,.r]
def B47 (P : PT) (N46 : NTy k9 Pr) (x2 : Nat) (x4 : Value) (x13 : Int) (H : AHeap) : Prop :=
  N46 x2 x4 (IntKind.i64.wrap (x13 + 5)) H
theorem q47 (P : PT) (N46 : NTy k9 Pr) : QB Tryz.prog T0 228 o47 (En 228 k9 N46) k9 (B47 P N46) := fun _ _ _ _ _  => by kernel_rfl
noncomputable def o48 := ob Tryz.f67 [.r,.r,.l,.r,.l,.r,.r,.r,.r,.r,.r,.r,.r,.r,.r,.r,.r,.r,.r,.r,.r,.r,.l,.l,.r,.l,.l,.r,.l,.l]
def B48 (P : PT) (N46 : NTy k9 Pr) (x2 : Nat) (x4 : Value) (x13 : Int) (H : AHeap) : Prop :=
  newK H [(Value.int .i64 x13), (Value.int .i64 (IntKind.i64.wrap (x13 + 2))), (Value.int .i64 x13), (Value.int .i64 (IntKind.i64.wrap (x13 + 3))), (Value.int .i64 (IntKind.i64.wrap (x13 + 1))), (Value.int .i64 (IntKind.i64.wrap (x13 + 2))), (Value.int .i64 (IntKind.i64.wrap (x13 + 1))), (Value.int .i64 (IntKind.i64.wrap (x13 + 3))), (Value.int .i64 (IntKind.i64.wrap (x13 + 2))), (Value.int .i64 (IntKind.i64.wrap (x13 + 3))), (Value.int .i64 x13), (Value.int .i64 (IntKind.i64.wrap (x13 + 4))), (Value.int .i64 (IntKind.i64.wrap (x13 + 1))), (Value.int .i64 (IntKind.i64.wrap (x13 + 4)))] 78 (fun b1 H2 => apK T0 78 H2 x4 (Value.slice (some ⟨b1, 0, none⟩) 7 (7 + 1)) (fun v3 H4 => B47 P N46 x2 v3 x13 H4))
theorem q48 (P : PT) (N46 : NTy k9 Pr) : QB Tryz.prog T0 228 o48 (En 228 k9 (B47 P N46)) k9 (B48 P N46) := fun _ _ _ _ _  => by kernel_rfl
noncomputable def o49 := ob Tryz.f67 [.r,.r,.l,.r,.l,.r,.r,.r,.r,.r,.r,.r,.r,.r,.r,.r,.r,.r,.r,.r,.r,.r,.l,.l,.r,.l,.l,.l,.l]
def B49 (P : PT) (N46 : NTy k9 Pr) (x2 : Nat) (x4 : Value) (x13 : Int) (H : AHeap) : Prop :=
  pif (decide ((x13 : Int) ≤ 5)) (B48 P N46 x2 x4 x13 H) (B45 P x2 x4 H)
theorem q49 (P : PT) (N46 : NTy k9 Pr) : QB Tryz.prog T0 228 o49 (cnd 184 (En 228 k9 (B48 P N46)) (En 228 k1 (B45 P))) k9 (B49 P N46) := fun _ _ _ _ _  => by kernel_rfl
def L46 (P : PT) (x2 : Nat) (x4 : Value) (x13 : Int) (H : AHeap) : Prop :=
  ∃ (I : NTy k9 Pr) (μ : NTy k9 (AHeap → Nat)), I x2 x4 x13 H ∧ ∀ y2 y4 y13 G, I y2 y4 y13 G → B49 P (fun z2 z4 z13 G' => I z2 z4 z13 G' ∧ μ z2 z4 z13 G' < μ y2 y4 y13 G) y2 y4 y13 G
theorem l46 (P : PT) : LQ k9 (L46 P) (B49 P) := fun ⟨_,_,_,_⟩ _ ⟨I, μ, h0, hI⟩ => ⟨apT _ I, apT _ μ, h0, fun ⟨_,_,_,_⟩ _ h => hI _ _ _ _  h⟩
noncomputable def o50 := ob Tryz.f67 [.r,.r,.l,.r,.l,.r,.r,.r,.r,.r,.r,.r,.r,.r,.r,.r,.r,.r,.r,.r,.r,.r,.l,.l,.l]
def B50 (P : PT) (x2 : Nat) (x4 : Value) (H : AHeap) : Prop :=
  L46 P x2 x4 0 H
theorem q50 (P : PT) : QB Tryz.prog T0 228 o50 (En 228 k9 (L46 P)) k1 (B50 P) := fun _ _ _ _  => by kernel_rfl
abbrev k10 : Sk := [(2,.x),(4,.v),(15,.s)]
noncomputable def o51 := ob Tryz.f67 [.r,.r,.l,.r,.l,.r,.r,.r,.r,.r,.r,.r,.r,.r,.r,.r,.r,.r,.r,.r,.r,.l]
def B51 (P : PT) (x2 : Nat) (x4 : Value) (x15 : ByteArray) (H : AHeap) : Prop :=
  pif (ByteArray.toList x15 == ByteArray.toList (⟨#[98, 114, 105, 100, 103, 101]⟩)) (B50 P x2 x4 H) (B1 P x2 H)
theorem q51 (P : PT) : QB Tryz.prog T0 228 o51 (cnd 181 (En 228 k1 (B50 P)) (En 228 k0 (B1 P))) k10 (B51 P) := fun _ _ _ _ _  => by kernel_rfl
noncomputable def o52 := ob Tryz.f67 [.r,.r,.l,.r,.l,.r,.r,.r,.r,.r,.r,.r,.r,.r,.r,.r,.r,.r,.r,.l]
def B52 (P : PT) (x2 : Nat) (x4 : Value) (x15 : ByteArray) (H : AHeap) : Prop :=
  pif (ByteArray.toList x15 == ByteArray.toList (⟨#[102, 108, 111, 119, 101, 114, 53]⟩)) (B44 P x2 x4 H) (B51 P x2 x4 x15 H)
theorem q52 (P : PT) : QB Tryz.prog T0 228 o52 (cnd 153 (En 228 k1 (B44 P)) (En 228 k10 (B51 P))) k10 (B52 P) := fun _ _ _ _ _  => by kernel_rfl
noncomputable def o53 := ob Tryz.f67 [.r,.r,.l,.r,.l,.r,.r,.r,.r,.r,.r,.r,.r,.r,.r,.r,.r,.l]
def B53 (P : PT) (x2 : Nat) (x4 : Value) (x15 : ByteArray) (H : AHeap) : Prop :=
  pif (ByteArray.toList x15 == ByteArray.toList (⟨#[116, 105, 101, 116, 122, 101]⟩)) (B37 P x2 x4 H) (B52 P x2 x4 x15 H)
theorem q53 (P : PT) : QB Tryz.prog T0 228 o53 (cnd 115 (En 228 k1 (B37 P)) (En 228 k10 (B52 P))) k10 (B53 P) := fun _ _ _ _ _  => by kernel_rfl
noncomputable def o54 := ob Tryz.f67 [.r,.r,.l,.r,.l,.r,.r,.r,.r,.r,.r,.r,.r,.r,.r,.l]
def B54 (P : PT) (x2 : Nat) (x4 : Value) (x15 : ByteArray) (H : AHeap) : Prop :=
  pif (ByteArray.toList x15 == ByteArray.toList (⟨#[112, 101, 116, 101, 114, 115, 101, 110]⟩)) (B28 P x2 x4 H) (B53 P x2 x4 x15 H)
theorem q54 (P : PT) : QB Tryz.prog T0 228 o54 (cnd 88 (En 228 k1 (B28 P)) (En 228 k10 (B53 P))) k10 (B54 P) := fun _ _ _ _ _  => by kernel_rfl
noncomputable def o55 := ob Tryz.f67 [.r,.r,.l,.r,.l,.r,.r,.r,.r,.r,.r,.r,.r,.l]
def B55 (P : PT) (x2 : Nat) (x4 : Value) (x15 : ByteArray) (H : AHeap) : Prop :=
  pif (ByteArray.toList x15 == ByteArray.toList (⟨#[99, 117, 98, 101]⟩)) (B22 P x2 x4 H) (B54 P x2 x4 x15 H)
theorem q55 (P : PT) : QB Tryz.prog T0 228 o55 (cnd 64 (En 228 k1 (B22 P)) (En 228 k10 (B54 P))) k10 (B55 P) := fun _ _ _ _ _  => by kernel_rfl
noncomputable def o56 := ob Tryz.f67 [.r,.r,.l,.r,.l,.r,.r,.r,.r,.r,.r,.l]
def B56 (P : PT) (x2 : Nat) (x4 : Value) (x15 : ByteArray) (H : AHeap) : Prop :=
  pif (ByteArray.toList x15 == ByteArray.toList (⟨#[112, 114, 105, 115, 109]⟩)) (B11 P x2 x4 H) (B55 P x2 x4 x15 H)
theorem q56 (P : PT) : QB Tryz.prog T0 228 o56 (cnd 50 (En 228 k1 (B11 P)) (En 228 k10 (B55 P))) k10 (B56 P) := fun _ _ _ _ _  => by kernel_rfl
noncomputable def o57 := ob Tryz.f67 [.r,.r,.l,.r,.l,.r,.r,.r,.r,.l]
def B57 (P : PT) (x2 : Nat) (x4 : Value) (x15 : ByteArray) (H : AHeap) : Prop :=
  pif (ByteArray.toList x15 == ByteArray.toList (⟨#[107, 51, 51]⟩)) (B9 P x2 x4 H) (B56 P x2 x4 x15 H)
theorem q57 (P : PT) : QB Tryz.prog T0 228 o57 (cnd 33 (En 228 k1 (B9 P)) (En 228 k10 (B56 P))) k10 (B57 P) := fun _ _ _ _ _  => by kernel_rfl
noncomputable def o58 := ob Tryz.f67 [.r,.r,.l,.r,.l,.r,.r,.l]
def B58 (P : PT) (x2 : Nat) (x4 : Value) (x15 : ByteArray) (H : AHeap) : Prop :=
  pif (ByteArray.toList x15 == ByteArray.toList (⟨#[107, 52]⟩)) (B3 P x2 H) (B57 P x2 x4 x15 H)
theorem q58 (P : PT) : QB Tryz.prog T0 228 o58 (cnd 23 (En 228 k0 (B3 P)) (En 228 k10 (B57 P))) k10 (B58 P) := fun _ _ _ _ _  => by kernel_rfl
noncomputable def o59 := ob Tryz.f67 [.r,.r,.l,.r,.l,.l]
def B59 (P : PT) (x2 : Nat) (x4 : Value) (x15 : ByteArray) (H : AHeap) : Prop :=
  pif (ByteArray.toList x15 == ByteArray.toList (⟨#[116, 104, 101, 116, 97]⟩)) (B2 P x2 H) (B58 P x2 x4 x15 H)
theorem q59 (P : PT) : QB Tryz.prog T0 228 o59 (cnd 16 (En 228 k0 (B2 P)) (En 228 k10 (B58 P))) k10 (B59 P) := fun _ _ _ _ _  => by kernel_rfl
abbrev k11 : Sk := [(0,.s),(2,.x),(4,.v)]
noncomputable def o60 := ob Tryz.f67 [.r,.r,.l,.l]
def B60 (P : PT) (x0 : ByteArray) (x2 : Nat) (x4 : Value) (H : AHeap) : Prop :=
  B59 P x2 x4 x0 H
theorem q60 (P : PT) : QB Tryz.prog T0 228 o60 (En 228 k10 (B59 P)) k11 (B60 P) := fun _ _ _ _ _  => by kernel_rfl
abbrev k12 : Sk := [(0,.s),(2,.x)]
noncomputable def o61 := ob Tryz.f67 [.r,.l]
def B61 (P : PT) (x0 : ByteArray) (x2 : Nat) (H : AHeap) : Prop :=
  newK H [] 78 (fun b1 H2 => B60 P x0 x2 (Value.slice (some ⟨b1, 0, none⟩) 0 (0 + 1)) H2)
theorem q61 (P : PT) : QB Tryz.prog T0 228 o61 (En 228 k11 (B60 P)) k12 (B61 P) := fun _ _ _ _  => by kernel_rfl
abbrev k13 : Sk := [(0,.s)]
noncomputable def o62 := ob Tryz.f67 [.l]
def B62 (P : PT) (x0 : ByteArray) (H : AHeap) : Prop :=
  newK H [(Value.int .i64 0), (Value.slice none 0 0)] 26 (fun b1 H2 => B61 P x0 b1 H2)
theorem q62 (P : PT) : QB Tryz.prog T0 228 o62 (En 228 k12 (B61 P)) k13 (B62 P) := fun _ _ _  => by kernel_rfl
noncomputable def code : Code := (.seq (.region 0 ⟨o62⟩ false) (.seq (.region 1 ⟨o61⟩ false) (.seq (.seq (.region 2 ⟨o60⟩ false) (.block 0 (.seq (.region 3 ⟨o59⟩ false) (.cond (.tmp 16) (.seq (.region 4 ⟨o2⟩ false) .ret) (.seq (.region 5 ⟨o58⟩ false) (.cond (.tmp 23) (.seq (.region 6 ⟨o3⟩ false) .ret) (.seq (.region 7 ⟨o57⟩ false) (.cond (.tmp 33) (.seq (.seq (.region 8 ⟨o9⟩ false) (.block 1 (.loop (.seq (.seq (.region 9 ⟨o8⟩ false) (.cond (.tmp 36) .skip (.exit 1))) (.seq (.block 2 (.region 11 ⟨o7⟩ false)) (.region 10 ⟨o6⟩ false)))))) (.seq (.region 12 ⟨o4⟩ false) .ret)) (.seq (.region 13 ⟨o56⟩ false) (.cond (.tmp 50) (.seq (.region 14 ⟨o11⟩ false) (.seq (.region 15 ⟨o10⟩ false) .ret)) (.seq (.region 16 ⟨o55⟩ false) (.cond (.tmp 64) (.seq (.seq (.region 17 ⟨o22⟩ false) (.block 3 (.loop (.seq (.seq (.region 18 ⟨o21⟩ false) (.cond (.tmp 67) .skip (.exit 3))) (.seq (.block 4 (.seq (.region 20 ⟨o20⟩ false) (.block 5 (.loop (.seq (.seq (.region 21 ⟨o19⟩ false) (.cond (.tmp 71) .skip (.exit 5))) (.seq (.block 6 (.seq (.region 23 ⟨o18⟩ false) (.cond (.tmp 77) (.region 24 ⟨o17⟩ false) .skip))) (.region 22 ⟨o16⟩ false))))))) (.region 19 ⟨o14⟩ false)))))) (.seq (.region 25 ⟨o12⟩ false) .ret)) (.seq (.region 26 ⟨o54⟩ false) (.cond (.tmp 88) (.seq (.seq (.region 27 ⟨o28⟩ false) (.block 7 (.loop (.seq (.seq (.region 28 ⟨o27⟩ false) (.cond (.tmp 91) .skip (.exit 7))) (.seq (.block 8 (.region 30 ⟨o26⟩ false)) (.region 29 ⟨o25⟩ false)))))) (.seq (.region 31 ⟨o23⟩ false) .ret)) (.seq (.region 32 ⟨o53⟩ false) (.cond (.tmp 115) (.seq (.region 33 ⟨o37⟩ false) (.seq (.seq (.region 34 ⟨o36⟩ false) (.block 9 (.loop (.seq (.seq (.region 35 ⟨o35⟩ false) (.cond (.tmp 125) .skip (.exit 9))) (.seq (.block 10 (.seq (.region 37 ⟨o34⟩ false) (.cond (.tmp 134) (.region 38 ⟨o33⟩ false) .skip))) (.region 36 ⟨o32⟩ false)))))) (.seq (.region 39 ⟨o30⟩ false) (.seq (.region 40 ⟨o29⟩ false) .ret)))) (.seq (.region 41 ⟨o52⟩ false) (.cond (.tmp 153) (.seq (.seq (.region 42 ⟨o44⟩ false) (.block 11 (.loop (.seq (.seq (.region 43 ⟨o43⟩ false) (.cond (.tmp 156) .skip (.exit 11))) (.seq (.block 12 (.region 45 ⟨o42⟩ false)) (.region 44 ⟨o41⟩ false)))))) (.seq (.region 46 ⟨o39⟩ false) (.seq (.region 47 ⟨o38⟩ false) .ret))) (.seq (.region 48 ⟨o51⟩ false) (.cond (.tmp 181) (.seq (.seq (.region 49 ⟨o50⟩ false) (.block 13 (.loop (.seq (.seq (.region 50 ⟨o49⟩ false) (.cond (.tmp 184) .skip (.exit 13))) (.seq (.block 14 (.region 52 ⟨o48⟩ false)) (.region 51 ⟨o47⟩ false)))))) (.seq (.region 53 ⟨o45⟩ false) .ret)) .skip)))))))))))))))))))) (.seq (.region 54 ⟨o1⟩ false) .ret))))
theorem body : Tryz.f67.body = some code := by kernel_rfl
theorem main (P : PT) : ∀ env H, (En 228 k13 (B62 P)) env H → AW Tryz.prog T0 code env H (mkQ (ret P) (fun _ _ _ => False) (ret P)) :=
  (r_seq (rB T0_ok (q62 P)) (r_seq (rB T0_ok (q61 P)) (r_seq (r_seq (rB T0_ok (q60 P)) (r_block (r_seq (rB T0_ok (q59 P)) (r_cond rfl (r_seq (rB T0_ok (q2 P)) r_ret) (r_seq (rB T0_ok (q58 P)) (r_cond rfl (r_seq (rB T0_ok (q3 P)) r_ret) (r_seq (rB T0_ok (q57 P)) (r_cond rfl (r_seq (r_seq (rB T0_ok (q9 P)) (r_block (rL (l5 P) (fun N5 => (r_seq (r_seq (rB T0_ok (q8 P N5)) (r_cond rfl r_skip (r_exit (fun _ _ h => h)))) (r_seq (r_block (rB T0_ok (q7 P N5))) (rB T0_ok (q6 P N5)))))))) (r_seq (rB T0_ok (q4 P)) r_ret)) (r_seq (rB T0_ok (q56 P)) (r_cond rfl (r_seq (rB T0_ok (q11 P)) (r_seq (rB T0_ok (q10 P)) r_ret)) (r_seq (rB T0_ok (q55 P)) (r_cond rfl (r_seq (r_seq (rB T0_ok (q22 P)) (r_block (rL (l13 P) (fun N13 => (r_seq (r_seq (rB T0_ok (q21 P N13)) (r_cond rfl r_skip (r_exit (fun _ _ h => h)))) (r_seq (r_block (r_seq (rB T0_ok (q20 P N13)) (r_block (rL (l15 P N13) (fun N15 => (r_seq (r_seq (rB T0_ok (q19 P N13 N15)) (r_cond rfl r_skip (r_exit (fun _ _ h => h)))) (r_seq (r_block (r_seq (rB T0_ok (q18 P N13 N15)) (r_cond rfl (rB T0_ok (q17 P N13 N15)) r_skip))) (rB T0_ok (q16 P N13 N15))))))))) (rB T0_ok (q14 P N13)))))))) (r_seq (rB T0_ok (q12 P)) r_ret)) (r_seq (rB T0_ok (q54 P)) (r_cond rfl (r_seq (r_seq (rB T0_ok (q28 P)) (r_block (rL (l24 P) (fun N24 => (r_seq (r_seq (rB T0_ok (q27 P N24)) (r_cond rfl r_skip (r_exit (fun _ _ h => h)))) (r_seq (r_block (rB T0_ok (q26 P N24))) (rB T0_ok (q25 P N24)))))))) (r_seq (rB T0_ok (q23 P)) r_ret)) (r_seq (rB T0_ok (q53 P)) (r_cond rfl (r_seq (rB T0_ok (q37 P)) (r_seq (r_seq (rB T0_ok (q36 P)) (r_block (rL (l31 P) (fun N31 => (r_seq (r_seq (rB T0_ok (q35 P N31)) (r_cond rfl r_skip (r_exit (fun _ _ h => h)))) (r_seq (r_block (r_seq (rB T0_ok (q34 P N31)) (r_cond rfl (rB T0_ok (q33 P N31)) r_skip))) (rB T0_ok (q32 P N31)))))))) (r_seq (rB T0_ok (q30 P)) (r_seq (rB T0_ok (q29 P)) r_ret)))) (r_seq (rB T0_ok (q52 P)) (r_cond rfl (r_seq (r_seq (rB T0_ok (q44 P)) (r_block (rL (l40 P) (fun N40 => (r_seq (r_seq (rB T0_ok (q43 P N40)) (r_cond rfl r_skip (r_exit (fun _ _ h => h)))) (r_seq (r_block (rB T0_ok (q42 P N40))) (rB T0_ok (q41 P N40)))))))) (r_seq (rB T0_ok (q39 P)) (r_seq (rB T0_ok (q38 P)) r_ret))) (r_seq (rB T0_ok (q51 P)) (r_cond rfl (r_seq (r_seq (rB T0_ok (q50 P)) (r_block (rL (l46 P) (fun N46 => (r_seq (r_seq (rB T0_ok (q49 P N46)) (r_cond rfl r_skip (r_exit (fun _ _ h => h)))) (r_seq (r_block (rB T0_ok (q48 P N46))) (rB T0_ok (q47 P N46)))))))) (r_seq (rB T0_ok (q45 P)) r_ret)) r_skip)))))))))))))))))))) (r_seq (rB T0_ok (q1 P)) r_ret))))
theorem ac (P : PT) (x0 : ByteArray) (H : AHeap) (h : B62 P x0 H) : AC Tryz.prog T0 67 [(Value.string x0)] H P :=
  r_fn T0_ok (c := code) (n := 228) Tryz.func67 body (by kernel_rfl) (main P) (En_mk (x0, ()) (by kernel_rfl) ⟨by kernel_rfl, trivial⟩ h)

end F67
-- loop.example/g01329/spec.l01Bad
namespace F68
noncomputable def ret (P : PT) : EP := retE T0 69 Tryz.f68 P
abbrev k0 : Sk := [(3,.x),(4,.x),(5,.v)]
noncomputable def o1 := ob Tryz.f68 [.r,.r,.r,.l]
def B1 (P : PT) (x3 x4 : Nat) (x5 : Value) (H : AHeap) : Prop :=
  ldI .i64 H x3 0 (fun v1 => pif (Value.oneCell' x5) (stK H x4 0 [(Value.int .i64 v1), x5] (fun H2 => ldI .i64 H2 x4 0 (fun v3 => ld1 H2 x4 1 (fun v4 => P (Value.agg ⟨[(Value.int .i64 v3), v4]⟩) H2)))) False)
theorem q1 (P : PT) : QB Tryz.prog T0 69 o1 (ret P) k0 (B1 P) := fun _ _ _ _ _  => by kernel_rfl
abbrev k1 : Sk := [(0,.v),(3,.x),(4,.x),(5,.v)]
noncomputable def o2 := ob Tryz.f68 [.r,.r,.l,.r,.l,.r,.l,.l]
def B2 (P : PT) (x0 : Value) (x3 x4 : Nat) (x5 : Value) (H : AHeap) : Prop :=
  ldI .i64 H x3 0 (fun v1 => newK H [(Value.int .i64 0), (Value.int .i64 3), (Value.int .i64 22), (Value.int .i64 (-2)), (Value.int .i64 (IntKind.i64.wrap (v1 + 2)))] 2 (fun b2 H3 => AC Tryz.prog T0 83 [x0, (Value.slice (some ⟨b2, 0, none⟩) 5 (5 + 1))] H3 (fun v4 H5 => asI .i64 v4 (fun v6 => pif (Value.oneCell' x5) (stK H5 x4 0 [(Value.int .i64 v6), x5] (fun H7 => ldI .i64 H7 x4 0 (fun v8 => ld1 H7 x4 1 (fun v9 => P (Value.agg ⟨[(Value.int .i64 v8), v9]⟩) H7)))) False))))
theorem q2 (P : PT) : QB Tryz.prog T0 69 o2 (ret P) k1 (B2 P) := fun _ _ _ _ _ _  => by kernel_rfl
noncomputable def o3 := ob Tryz.f68 [.r,.r,.l,.r,.l,.r,.r,.r,.l]
def B3 (P : PT) (x0 : Value) (x3 x4 : Nat) (x5 : Value) (H : AHeap) : Prop :=
  lenK x5 (fun n1 => ldI .i64 H x3 0 (fun v2 => ldI .i64 H x3 0 (fun v3 => (AC Tryz.prog T0 66 [x0, (Value.int .i64 (n1 : Int))] H (fun v4 H5 => asI .i64 v4 (fun v6 => (ldI .i64 H5 x3 0 (fun v7 => ((Value.int .i64 v7) = (Value.int .i64 v2)) ∧ (H5 = H5))) ∧ ((ldI .i64 H5 x3 0 (fun v8 => ((Value.int .i64 v8) = (Value.int .i64 v3)) ∧ (H5 = H5))) ∧ ((AC Tryz.prog T0 66 [x0, (Value.int .i64 v2)] H5 (fun v9 H10 => asI .i64 v9 (fun v11 => (ldI .i64 H10 x3 0 (fun v12 => ((Value.int .i64 v12) = (Value.int .i64 v3)) ∧ (H10 = H10))) ∧ (newK H10 [(Value.int .i64 (-1)), (Value.int .i64 v3), (Value.int .i64 0)] 2 (fun b13 H14 => AC Tryz.prog T0 83 [x0, (Value.slice (some ⟨b13, 0, none⟩) 3 (3 + 1))] H14 (fun v15 H16 => asI .i64 v15 (fun v17 => idxK x5 v6 2 (fun b18 o19 => stK H16 b18 o19 [(Value.int .i64 v11), (Value.int .i64 v17)] (fun H20 => B1 P x3 x4 x5 H20))))))))) ∧ (newK H5 [(Value.int .i64 (-1)), (Value.int .i64 v3), (Value.int .i64 0)] 2 (fun b21 H22 => AC Tryz.prog T0 66 [x0, (Value.int .i64 v2)] H22 (fun v23 H24 => asI .i64 v23 (fun v25 => (ldI .i64 H24 x3 0 (fun v26 => ((Value.int .i64 v26) = (Value.int .i64 v3)) ∧ (H24 = H24))) ∧ (AC Tryz.prog T0 83 [x0, (Value.slice (some ⟨b21, 0, none⟩) 3 (3 + 1))] H24 (fun v27 H28 => asI .i64 v27 (fun v29 => idxK x5 v6 2 (fun b30 o31 => stK H28 b30 o31 [(Value.int .i64 v25), (Value.int .i64 v29)] (fun H32 => B1 P x3 x4 x5 H32)))))))))))))) ∧ (newK H [(Value.int .i64 (-1)), (Value.int .i64 v3), (Value.int .i64 0)] 2 (fun b33 H34 => AC Tryz.prog T0 66 [x0, (Value.int .i64 (n1 : Int))] H34 (fun v35 H36 => asI .i64 v35 (fun v37 => (ldI .i64 H36 x3 0 (fun v38 => ((Value.int .i64 v38) = (Value.int .i64 v2)) ∧ (H36 = H36))) ∧ ((ldI .i64 H36 x3 0 (fun v39 => ((Value.int .i64 v39) = (Value.int .i64 v3)) ∧ (H36 = H36))) ∧ (AC Tryz.prog T0 66 [x0, (Value.int .i64 v2)] H36 (fun v40 H41 => asI .i64 v40 (fun v42 => (ldI .i64 H41 x3 0 (fun v43 => ((Value.int .i64 v43) = (Value.int .i64 v3)) ∧ (H41 = H41))) ∧ (AC Tryz.prog T0 83 [x0, (Value.slice (some ⟨b33, 0, none⟩) 3 (3 + 1))] H41 (fun v44 H45 => asI .i64 v44 (fun v46 => idxK x5 v37 2 (fun b47 o48 => stK H45 b47 o48 [(Value.int .i64 v42), (Value.int .i64 v46)] (fun H49 => B1 P x3 x4 x5 H49))))))))))))))))
theorem q3 (P : PT) : QT Tryz.prog T0 69 o3 (.op 0 [] (.op 1 [] (.op 2 [] (.op 3 [] (.op 5 [] (.op 6 [] (.op 7 [] (.op 9 [] (.op 10 [] (.op 11 [] (.alt (.op 4 [7, 11] (.alt (.op 8 [11] (.op 12 [] (.op 13 [] (.op 14 [] (.op 15 [] (.op 16 [] .done)))))) (.op 12 [] (.op 8 [11] (.op 13 [] (.op 14 [] (.op 15 [] (.op 16 [] .done)))))))) (.op 12 [] (.op 4 [7, 11] (.op 8 [11] (.op 13 [] (.op 14 [] (.op 15 [] (.op 16 [] .done)))))))))))))))))) (En 69 k0 (B1 P)) k1 (B3 P) := fun _ _ _ _ _ _  => by kernel_rfl
abbrev k2 : Sk := [(3,.x),(4,.x),(5,.v),(6,.x)]
noncomputable def o4 := ob Tryz.f68 [.r,.r,.l,.r,.l,.r,.r,.r,.r,.r,.l,.r,.r]
def B4 (P : PT) (x3 x4 : Nat) (x5 : Value) (x6 : Nat) (H : AHeap) : Prop :=
  lenK x5 (fun n1 => ldI .i64 H x6 0 (fun v2 => ldI .i64 H x6 1 (fun v3 => idxK x5 (IntKind.i64.wrap ((n1 : Int) - 1)) 2 (fun b4 o5 => stK H b4 o5 [(Value.int .i64 v2), (Value.int .i64 v3)] (fun H6 => B1 P x3 x4 x5 H6)))))
theorem q4 (P : PT) : QB Tryz.prog T0 69 o4 (En 69 k0 (B1 P)) k2 (B4 P) := fun _ _ _ _ _ _  => by kernel_rfl
noncomputable def o5 := ob Tryz.f68 [.r,.r,.l,.r,.l,.r,.r,.r,.r,.r,.l,.r,.l]
def B5 (P : PT) (x3 x4 : Nat) (x5 : Value) (x6 : Nat) (H : AHeap) : Prop :=
  lenK x5 (fun n1 => idxK x5 (IntKind.i64.wrap ((n1 : Int) - 1)) 2 (fun b2 o3 => ldI .i64 H b2 o3 (fun v4 => ldI .i64 H b2 (o3 + 1) (fun v5 => idxK x5 0 2 (fun b6 o7 => stK H b6 o7 [(Value.int .i64 v4), (Value.int .i64 v5)] (fun H8 => B4 P x3 x4 x5 x6 H8))))))
theorem q5 (P : PT) : QB Tryz.prog T0 69 o5 (En 69 k2 (B4 P)) k2 (B5 P) := fun _ _ _ _ _ _  => by kernel_rfl
noncomputable def o6 := ob Tryz.f68 [.r,.r,.l,.r,.l,.r,.r,.r,.r,.r,.l,.l]
def B6 (P : PT) (x3 x4 : Nat) (x5 : Value) (H : AHeap) : Prop :=
  idxK x5 0 2 (fun b1 o2 => ldI .i64 H b1 o2 (fun v3 => ldI .i64 H b1 (o2 + 1) (fun v4 => newK H [(Value.int .i64 0), (Value.int .i64 0)] 78 (fun b5 H6 => stK H6 b5 0 [(Value.int .i64 v3), (Value.int .i64 v4)] (fun H7 => B5 P x3 x4 x5 b5 H7)))))
theorem q6 (P : PT) : QB Tryz.prog T0 69 o6 (En 69 k2 (B5 P)) k0 (B6 P) := fun _ _ _ _ _  => by kernel_rfl
noncomputable def o7 := ob Tryz.f68 [.r,.r,.l,.r,.l,.r,.r,.r,.r,.r,.r,.r,.l]
def B7 (P : PT) (x3 x4 : Nat) (x5 : Value) (H : AHeap) : Prop :=
  sliceK H 78 x5 (some (Value.int .i64 1)) none 2 (fun v1 => B1 P x3 x4 v1 H)
theorem q7 (P : PT) : QB Tryz.prog T0 69 o7 (En 69 k0 (B1 P)) k0 (B7 P) := fun _ _ _ _ _  => by kernel_rfl
abbrev k3 : Sk := [(3,.x),(4,.x)]
noncomputable def o8 := ob Tryz.f68 [.r,.r,.l,.r,.l,.r,.r,.r,.r,.r,.r,.r,.r,.l]
def B8 (P : PT) (x3 x4 : Nat) (H : AHeap) : Prop :=
  ldI .i64 H x3 0 (fun v1 => ld1 H x3 1 (fun v2 => stK H x4 0 [(Value.int .i64 v1), v2] (fun H3 => ldI .i64 H3 x4 0 (fun v4 => ld1 H3 x4 1 (fun v5 => P (Value.agg ⟨[(Value.int .i64 v4), v5]⟩) H3)))))
theorem q8 (P : PT) : QB Tryz.prog T0 69 o8 (ret P) k3 (B8 P) := fun _ _ _ _  => by kernel_rfl
abbrev k4 : Sk := [(3,.x),(4,.x),(5,.v),(12,.i .i64)]
noncomputable def o9 := ob Tryz.f68 [.r,.r,.l,.r,.l,.r,.r,.r,.r,.r,.r,.l]
def B9 (P : PT) (x3 x4 : Nat) (x5 : Value) (x12 : Int) (H : AHeap) : Prop :=
  pif ((x12 : Int) == 3) (B7 P x3 x4 x5 H) (B8 P x3 x4 H)
theorem q9 (P : PT) : QB Tryz.prog T0 69 o9 (cnd 61 (En 69 k0 (B7 P)) (En 69 k3 (B8 P))) k4 (B9 P) := fun _ _ _ _ _ _  => by kernel_rfl
noncomputable def o10 := ob Tryz.f68 [.r,.r,.l,.r,.l,.r,.r,.r,.r,.l]
def B10 (P : PT) (x3 x4 : Nat) (x5 : Value) (x12 : Int) (H : AHeap) : Prop :=
  pif ((x12 : Int) == 2) (B6 P x3 x4 x5 H) (B9 P x3 x4 x5 x12 H)
theorem q10 (P : PT) : QB Tryz.prog T0 69 o10 (cnd 42 (En 69 k0 (B6 P)) (En 69 k4 (B9 P))) k4 (B10 P) := fun _ _ _ _ _ _  => by kernel_rfl
abbrev k5 : Sk := [(0,.v),(3,.x),(4,.x),(5,.v),(12,.i .i64)]
noncomputable def o11 := ob Tryz.f68 [.r,.r,.l,.r,.l,.r,.r,.l]
def B11 (P : PT) (x0 : Value) (x3 x4 : Nat) (x5 : Value) (x12 : Int) (H : AHeap) : Prop :=
  pif ((x12 : Int) == 1) (B3 P x0 x3 x4 x5 H) (B10 P x3 x4 x5 x12 H)
theorem q11 (P : PT) : QB Tryz.prog T0 69 o11 (cnd 24 (En 69 k1 (B3 P)) (En 69 k4 (B10 P))) k5 (B11 P) := fun _ _ _ _ _ _ _  => by kernel_rfl
noncomputable def o12 := ob Tryz.f68 [.r,.r,.l,.r,.l,.l]
def B12 (P : PT) (x0 : Value) (x3 x4 : Nat) (x5 : Value) (x12 : Int) (H : AHeap) : Prop :=
  pif ((x12 : Int) == 0) (B2 P x0 x3 x4 x5 H) (B11 P x0 x3 x4 x5 x12 H)
theorem q12 (P : PT) : QB Tryz.prog T0 69 o12 (cnd 14 (En 69 k1 (B2 P)) (En 69 k5 (B11 P))) k5 (B12 P) := fun _ _ _ _ _ _ _  => by kernel_rfl
noncomputable def o13 := ob Tryz.f68 [.r,.r,.l,.l]
def B13 (P : PT) (x0 : Value) (x3 x4 : Nat) (x5 : Value) (H : AHeap) : Prop :=
  AC Tryz.prog T0 66 [x0, (Value.int .i64 50)] H (fun v1 H2 => asI .i64 v1 (fun v3 => B12 P x0 x3 x4 x5 v3 H2))
theorem q13 (P : PT) : QB Tryz.prog T0 69 o13 (En 69 k5 (B12 P)) k1 (B13 P) := fun _ _ _ _ _ _  => by kernel_rfl
abbrev k6 : Sk := [(0,.v),(3,.x),(4,.x)]
noncomputable def o14 := ob Tryz.f68 [.r,.l]
def B14 (P : PT) (x0 : Value) (x3 x4 : Nat) (H : AHeap) : Prop :=
  newK H [] 78 (fun b1 H2 => ld1 H2 x3 1 (fun v3 => apK T0 78 H2 (Value.slice (some ⟨b1, 0, none⟩) 0 (0 + 1)) v3 (fun v4 H5 => B13 P x0 x3 x4 v4 H5)))
theorem q14 (P : PT) : QB Tryz.prog T0 69 o14 (En 69 k1 (B13 P)) k6 (B14 P) := fun _ _ _ _ _  => by kernel_rfl
abbrev k7 : Sk := [(0,.v),(1,.g [.i,.v])]
noncomputable def o15 := ob Tryz.f68 [.l]
def B15 (P : PT) (x0 : Value) (x1a : Int) (x1b : Value) (H : AHeap) : Prop :=
  newK H [(Value.int .i64 x1a), x1b] 26 (fun b1 H2 => newK H2 [(Value.int .i64 0), (Value.slice none 0 0)] 26 (fun b3 H4 => B14 P x0 b1 b3 H4))
theorem q15 (P : PT) : QB Tryz.prog T0 69 o15 (En 69 k6 (B14 P)) k7 (B15 P) := fun _ _ _ _ _  => by kernel_rfl
noncomputable def code : Code := (.seq (.region 0 ⟨o15⟩ false) (.seq (.region 1 ⟨o14⟩ false) (.seq (.seq (.region 2 ⟨o13⟩ false) (.block 0 (.seq (.region 4 ⟨o12⟩ false) (.cond (.tmp 14) (.seq (.region 5 ⟨o2⟩ false) .ret) (.seq (.region 6 ⟨o11⟩ false) (.cond (.tmp 24) (.region 7 ⟨o3⟩ true) (.seq (.region 8 ⟨o10⟩ false) (.cond (.tmp 42) (.seq (.region 9 ⟨o6⟩ false) (.seq (.region 10 ⟨o5⟩ false) (.region 11 ⟨o4⟩ false))) (.seq (.region 12 ⟨o9⟩ false) (.cond (.tmp 61) (.region 13 ⟨o7⟩ false) (.seq (.region 3 ⟨o8⟩ false) .ret))))))))))) (.seq (.region 14 ⟨o1⟩ false) .ret))))
theorem body : Tryz.f68.body = some code := by kernel_rfl
theorem main (P : PT) : ∀ env H, (En 69 k7 (B15 P)) env H → AW Tryz.prog T0 code env H (mkQ (ret P) (fun _ _ _ => False) (ret P)) :=
  (r_seq (rB T0_ok (q15 P)) (r_seq (rB T0_ok (q14 P)) (r_seq (r_seq (rB T0_ok (q13 P)) (r_block (r_seq (rB T0_ok (q12 P)) (r_cond rfl (r_seq (rB T0_ok (q2 P)) r_ret) (r_seq (rB T0_ok (q11 P)) (r_cond rfl (rT T0_ok mixed (.op 0 [] (.op 1 [] (.op 2 [] (.op 3 [] (.op 5 [] (.op 6 [] (.op 7 [] (.op 9 [] (.op 10 [] (.op 11 [] (.alt (.op 4 [7, 11] (.alt (.op 8 [11] (.op 12 [] (.op 13 [] (.op 14 [] (.op 15 [] (.op 16 [] .done)))))) (.op 12 [] (.op 8 [11] (.op 13 [] (.op 14 [] (.op 15 [] (.op 16 [] .done)))))))) (.op 12 [] (.op 4 [7, 11] (.op 8 [11] (.op 13 [] (.op 14 [] (.op 15 [] (.op 16 [] .done)))))))))))))))))) (by kernel_rfl) (q3 P)) (r_seq (rB T0_ok (q10 P)) (r_cond rfl (r_seq (rB T0_ok (q6 P)) (r_seq (rB T0_ok (q5 P)) (rB T0_ok (q4 P)))) (r_seq (rB T0_ok (q9 P)) (r_cond rfl (rB T0_ok (q7 P)) (r_seq (rB T0_ok (q8 P)) r_ret))))))))))) (r_seq (rB T0_ok (q1 P)) r_ret))))
theorem ac (P : PT) (x0 : Value) (x1a : Int) (x1b : Value) (H : AHeap) (h : B15 P x0 x1a x1b H) : AC Tryz.prog T0 68 [x0, (Value.agg ⟨[(Value.int .i64 x1a), x1b]⟩)] H P :=
  r_fn T0_ok (c := code) (n := 69) Tryz.func68 body (by kernel_rfl) (main P) (En_mk (x0, x1a, x1b, ()) (by kernel_rfl) ⟨by kernel_rfl, by kernel_rfl, trivial⟩ h)

end F68
-- loop.example/g01329/spec.l01Renamed
namespace F69
noncomputable def ret (P : PT) : EP := retE T0 41 Tryz.f69 P
abbrev k0 : Sk := [(2,.x),(4,.x),(5,.v)]
noncomputable def o1 := ob Tryz.f69 [.r,.r,.r,.l]
def B1 (P : PT) (x2 x4 : Nat) (x5 : Value) (H : AHeap) : Prop :=
  ldI .i64 H x2 0 (fun v1 => AC Tryz.prog T0 141 [(Value.int .i64 v1), x5] H (fun v2 H3 => agg2 v2 (fun v4 v5 => asI .i64 v4 (fun v6 => stK H3 x4 0 [(Value.int .i64 v6), v5] (fun H8 => ldI .i64 H8 x4 0 (fun v9 => ld1 H8 x4 1 (fun v10 => P (Value.agg ⟨[(Value.int .i64 v9), v10]⟩) H8)))))))
theorem q1 (P : PT) : QB Tryz.prog T0 41 o1 (ret P) k0 (B1 P) := fun _ _ _ _ _  => by kernel_rfl
abbrev k1 : Sk := [(1,.v),(2,.x),(4,.x),(5,.v),(6,.i .i64)]
noncomputable def o3 := ob Tryz.f69 [.r,.r,.l,.r,.l,.l,.r,.r]
def B3 (P : PT) (N2 : NTy k1 Pr) (x1 : Value) (x2 x4 : Nat) (x5 : Value) (x6 : Int) (H : AHeap) : Prop :=
  N2 x1 x2 x4 x5 (IntKind.i64.wrap (x6 + 1)) H
theorem q3 (P : PT) (N2 : NTy k1 Pr) : QB Tryz.prog T0 41 o3 (En 41 k1 N2) k1 (B3 P N2) := fun _ _ _ _ _ _ _  => by kernel_rfl
noncomputable def o4 := ob Tryz.f69 [.r,.r,.l,.r,.l,.l,.r,.l,.l]
def B4 (P : PT) (N2 : NTy k1 Pr) (x1 : Value) (x2 x4 : Nat) (x5 : Value) (x6 : Int) (H : AHeap) : Prop :=
  ld1 H x2 1 (fun v1 => idxK v1 x6 2 (fun b2 o3 => ldI .i64 H b2 o3 (fun v4 => idxK x1 v4 1 (fun b5 o6 => ldI .i64 H b5 o6 (fun v7 => ld1 H x2 1 (fun v8 => idxK v8 x6 2 (fun b9 o10 => ldI .i64 H b9 (o10 + 1) (fun v11 => idxK x1 v11 1 (fun b12 o13 => ldI .i64 H b12 o13 (fun v14 => newK H [(Value.int .i64 v7), (Value.int .i64 v14)] 78 (fun b15 H16 => apK T0 78 H16 x5 (Value.slice (some ⟨b15, 0, none⟩) 1 (1 + 1)) (fun v17 H18 => B3 P N2 x1 x2 x4 v17 x6 H18))))))))))))
theorem q4 (P : PT) (N2 : NTy k1 Pr) : QD Tryz.prog T0 41 o4 [(0, false), (1, false), (2, false), (3, false), (4, false), (5, false), (6, false), (7, false), (8, false), (9, false), (10, false), (11, false), (12, false), (13, false), (14, false), (15, false), (16, false), (17, false), (18, false), (19, false), (20, false), (21, false), (22, false)] (En 41 k1 (B3 P N2)) k1 (B4 P N2) := fun _ _ _ _ _ _ _  => by kernel_rfl
noncomputable def o5 := ob Tryz.f69 [.r,.r,.l,.r,.l,.l,.l,.l]
def B5 (P : PT) (N2 : NTy k1 Pr) (x1 : Value) (x2 x4 : Nat) (x5 : Value) (x6 : Int) (H : AHeap) : Prop :=
  ld1 H x2 1 (fun v1 => lenK v1 (fun n2 => pif (decide ((x6 : Int) < (n2 : Int))) (B4 P N2 x1 x2 x4 x5 x6 H) (B1 P x2 x4 x5 H)))
theorem q5 (P : PT) (N2 : NTy k1 Pr) : QB Tryz.prog T0 41 o5 (cnd 12 (En 41 k1 (B4 P N2)) (En 41 k0 (B1 P))) k1 (B5 P N2) := fun _ _ _ _ _ _ _  => by kernel_rfl
def L2 (P : PT) (x1 : Value) (x2 x4 : Nat) (x5 : Value) (x6 : Int) (H : AHeap) : Prop :=
  ∃ (I : NTy k1 Pr) (μ : NTy k1 (AHeap → Nat)), I x1 x2 x4 x5 x6 H ∧ ∀ y1 y2 y4 y5 y6 G, I y1 y2 y4 y5 y6 G → B5 P (fun z1 z2 z4 z5 z6 G' => I z1 z2 z4 z5 z6 G' ∧ μ z1 z2 z4 z5 z6 G' < μ y1 y2 y4 y5 y6 G) y1 y2 y4 y5 y6 G
theorem l2 (P : PT) : LQ k1 (L2 P) (B5 P) := fun ⟨_,_,_,_,_,_⟩ _ ⟨I, μ, h0, hI⟩ => ⟨apT _ I, apT _ μ, h0, fun ⟨_,_,_,_,_,_⟩ _ h => hI _ _ _ _ _ _  h⟩
abbrev k2 : Sk := [(1,.v),(2,.x),(4,.x),(5,.v)]
noncomputable def o6 := ob Tryz.f69 [.r,.r,.l,.l]
def B6 (P : PT) (x1 : Value) (x2 x4 : Nat) (x5 : Value) (H : AHeap) : Prop :=
  L2 P x1 x2 x4 x5 0 H
theorem q6 (P : PT) : QB Tryz.prog T0 41 o6 (En 41 k1 (L2 P)) k2 (B6 P) := fun _ _ _ _ _ _  => by kernel_rfl
abbrev k3 : Sk := [(1,.v),(2,.x),(4,.x)]
noncomputable def o7 := ob Tryz.f69 [.r,.l]
def B7 (P : PT) (x1 : Value) (x2 x4 : Nat) (H : AHeap) : Prop :=
  newK H [] 78 (fun b1 H2 => B6 P x1 x2 x4 (Value.slice (some ⟨b1, 0, none⟩) 0 (0 + 1)) H2)
theorem q7 (P : PT) : QB Tryz.prog T0 41 o7 (En 41 k2 (B6 P)) k3 (B7 P) := fun _ _ _ _ _  => by kernel_rfl
abbrev k4 : Sk := [(0,.g [.i,.v]),(1,.v)]
noncomputable def o8 := ob Tryz.f69 [.l]
def B8 (P : PT) (x0a : Int) (x0b x1 : Value) (H : AHeap) : Prop :=
  newK H [(Value.int .i64 x0a), x0b] 26 (fun b1 H2 => newK H2 [(Value.int .i64 0), (Value.slice none 0 0)] 26 (fun b3 H4 => B7 P x1 b1 b3 H4))
theorem q8 (P : PT) : QB Tryz.prog T0 41 o8 (En 41 k3 (B7 P)) k4 (B8 P) := fun _ _ _ _ _  => by kernel_rfl
noncomputable def code : Code := (.seq (.region 0 ⟨o8⟩ false) (.seq (.region 1 ⟨o7⟩ false) (.seq (.seq (.region 2 ⟨o6⟩ false) (.block 0 (.loop (.seq (.seq (.region 3 ⟨o5⟩ false) (.cond (.tmp 12) .skip (.exit 0))) (.seq (.block 1 (.region 5 ⟨o4⟩ true)) (.region 4 ⟨o3⟩ false)))))) (.seq (.region 6 ⟨o1⟩ false) .ret))))
theorem body : Tryz.f69.body = some code := by kernel_rfl
theorem main (P : PT) : ∀ env H, (En 41 k4 (B8 P)) env H → AW Tryz.prog T0 code env H (mkQ (ret P) (fun _ _ _ => False) (ret P)) :=
  (r_seq (rB T0_ok (q8 P)) (r_seq (rB T0_ok (q7 P)) (r_seq (r_seq (rB T0_ok (q6 P)) (r_block (rL (l2 P) (fun N2 => (r_seq (r_seq (rB T0_ok (q5 P N2)) (r_cond rfl r_skip (r_exit (fun _ _ h => h)))) (r_seq (r_block (rD T0_ok mixed [(0, false), (1, false), (2, false), (3, false), (4, false), (5, false), (6, false), (7, false), (8, false), (9, false), (10, false), (11, false), (12, false), (13, false), (14, false), (15, false), (16, false), (17, false), (18, false), (19, false), (20, false), (21, false), (22, false)] (by kernel_rfl) (q4 P N2))) (rB T0_ok (q3 P N2)))))))) (r_seq (rB T0_ok (q1 P)) r_ret))))
theorem ac (P : PT) (x0a : Int) (x0b x1 : Value) (H : AHeap) (h : B8 P x0a x0b x1 H) : AC Tryz.prog T0 69 [(Value.agg ⟨[(Value.int .i64 x0a), x0b]⟩), x1] H P :=
  r_fn T0_ok (c := code) (n := 41) Tryz.func69 body (by kernel_rfl) (main P) (En_mk (x0a, x0b, x1, ()) (by kernel_rfl) ⟨by kernel_rfl, by kernel_rfl, trivial⟩ h)

end F69
-- loop.example/g01329/spec.l01DrawOrder
namespace F70
noncomputable def ret (P : PT) : EP := retE T0 30 Tryz.f70 P
abbrev k0 : Sk := [(5,.v)]
noncomputable def o1 := ob Tryz.f70 [.r,.r,.r,.l]
def B1 (P : PT) (x5 : Value) (H : AHeap) : Prop :=
  P x5 H
theorem q1 (P : PT) : QB Tryz.prog T0 30 o1 (ret P) k0 (B1 P) := fun _ _ _  => by kernel_rfl
abbrev k1 : Sk := [(0,.v),(1,.i .i64),(5,.v),(6,.i .i64)]
noncomputable def o3 := ob Tryz.f70 [.r,.r,.l,.r,.l,.l,.r,.r]
def B3 (P : PT) (N2 : NTy k1 Pr) (x0 : Value) (x1 : Int) (x5 : Value) (x6 : Int) (H : AHeap) : Prop :=
  N2 x0 x1 x5 (IntKind.i64.wrap (x6 + 1)) H
theorem q3 (P : PT) (N2 : NTy k1 Pr) : QB Tryz.prog T0 30 o3 (En 30 k1 N2) k1 (B3 P N2) := fun _ _ _ _ _ _  => by kernel_rfl
abbrev k2 : Sk := [(0,.v),(1,.i .i64),(5,.v),(6,.i .i64),(7,.i .i64)]
noncomputable def o4 := ob Tryz.f70 [.r,.r,.l,.r,.l,.l,.r,.l,.l,.r]
def B4 (P : PT) (N2 : NTy k1 Pr) (x0 : Value) (x1 : Int) (x5 : Value) (x6 x7 : Int) (H : AHeap) : Prop :=
  sliceK H 2 x5 none (some (Value.int .i64 x7)) 1 (fun v1 => sliceK H 2 x5 (some (Value.int .i64 x7)) none 1 (fun v2 => (AC Tryz.prog T0 138 [v1] H (fun v3 H4 => (sliceK H4 2 x5 (some (Value.int .i64 x7)) none 1 (fun v6 => (v6 = v2) ∧ (H4 = H4))) ∧ (newK H4 [(Value.int .i64 x6)] 2 (fun b7 H8 => apK T0 2 H8 v3 (Value.slice (some ⟨b7, 0, none⟩) 1 (1 + 1)) (fun v9 H10 => (sliceK H10 2 x5 (some (Value.int .i64 x7)) none 1 (fun v11 => (v11 = v2) ∧ (H10 = H10))) ∧ (apK T0 2 H10 v9 v2 (fun v12 H13 => B3 P N2 x0 x1 v12 x6 H13))))))) ∧ (newK H [(Value.int .i64 x6)] 2 (fun b14 H15 => AC Tryz.prog T0 138 [v1] H15 (fun v16 H17 => (sliceK H17 2 x5 (some (Value.int .i64 x7)) none 1 (fun v19 => (v19 = v2) ∧ (H17 = H17))) ∧ (apK T0 2 H17 v16 (Value.slice (some ⟨b14, 0, none⟩) 1 (1 + 1)) (fun v20 H21 => (sliceK H21 2 x5 (some (Value.int .i64 x7)) none 1 (fun v22 => (v22 = v2) ∧ (H21 = H21))) ∧ (apK T0 2 H21 v20 v2 (fun v23 H24 => B3 P N2 x0 x1 v23 x6 H24)))))))))
theorem q4 (P : PT) (N2 : NTy k1 Pr) : QT Tryz.prog T0 30 o4 (.op 0 [] (.op 1 [] (.op 2 [] (.op 4 [] (.op 7 [] (.op 8 [] (.op 9 [] (.alt (.op 3 [9] (.op 5 [] (.op 6 [9] (.op 10 [] (.op 11 [] .done))))) (.op 5 [] (.op 3 [9] (.op 6 [9] (.op 10 [] (.op 11 [] .done))))))))))))) (En 30 k1 (B3 P N2)) k2 (B4 P N2) := fun _ _ _ _ _ _ _  => by kernel_rfl
noncomputable def o5 := ob Tryz.f70 [.r,.r,.l,.r,.l,.l,.r,.l,.l,.l]
def B5 (P : PT) (N2 : NTy k1 Pr) (x0 : Value) (x1 : Int) (x5 : Value) (x6 : Int) (H : AHeap) : Prop :=
  AC Tryz.prog T0 66 [x0, (Value.int .i64 (IntKind.i64.wrap (x6 + 1)))] H (fun v1 H2 => asI .i64 v1 (fun v3 => B4 P N2 x0 x1 x5 x6 v3 H2))
theorem q5 (P : PT) (N2 : NTy k1 Pr) : QB Tryz.prog T0 30 o5 (En 30 k2 (B4 P N2)) k1 (B5 P N2) := fun _ _ _ _ _ _  => by kernel_rfl
noncomputable def o6 := ob Tryz.f70 [.r,.r,.l,.r,.l,.l,.l,.l]
def B6 (P : PT) (N2 : NTy k1 Pr) (x0 : Value) (x1 : Int) (x5 : Value) (x6 : Int) (H : AHeap) : Prop :=
  pif (decide ((x6 : Int) < x1)) (B5 P N2 x0 x1 x5 x6 H) (B1 P x5 H)
theorem q6 (P : PT) (N2 : NTy k1 Pr) : QB Tryz.prog T0 30 o6 (cnd 11 (En 30 k1 (B5 P N2)) (En 30 k0 (B1 P))) k1 (B6 P N2) := fun _ _ _ _ _ _  => by kernel_rfl
def L2 (P : PT) (x0 : Value) (x1 : Int) (x5 : Value) (x6 : Int) (H : AHeap) : Prop :=
  ∃ (I : NTy k1 Pr) (μ : NTy k1 (AHeap → Nat)), I x0 x1 x5 x6 H ∧ ∀ y0 y1 y5 y6 G, I y0 y1 y5 y6 G → B6 P (fun z0 z1 z5 z6 G' => I z0 z1 z5 z6 G' ∧ μ z0 z1 z5 z6 G' < μ y0 y1 y5 y6 G) y0 y1 y5 y6 G
theorem l2 (P : PT) : LQ k1 (L2 P) (B6 P) := fun ⟨_,_,_,_,_⟩ _ ⟨I, μ, h0, hI⟩ => ⟨apT _ I, apT _ μ, h0, fun ⟨_,_,_,_,_⟩ _ h => hI _ _ _ _ _  h⟩
abbrev k3 : Sk := [(0,.v),(1,.i .i64),(5,.v)]
noncomputable def o7 := ob Tryz.f70 [.r,.r,.l,.l]
def B7 (P : PT) (x0 : Value) (x1 : Int) (x5 : Value) (H : AHeap) : Prop :=
  L2 P x0 x1 x5 0 H
theorem q7 (P : PT) : QB Tryz.prog T0 30 o7 (En 30 k1 (L2 P)) k3 (B7 P) := fun _ _ _ _ _  => by kernel_rfl
abbrev k4 : Sk := [(0,.v),(1,.i .i64)]
noncomputable def o8 := ob Tryz.f70 [.r,.l]
def B8 (P : PT) (x0 : Value) (x1 : Int) (H : AHeap) : Prop :=
  newK H [] 2 (fun b1 H2 => B7 P x0 x1 (Value.slice (some ⟨b1, 0, none⟩) 0 (0 + 1)) H2)
theorem q8 (P : PT) : QB Tryz.prog T0 30 o8 (En 30 k3 (B7 P)) k4 (B8 P) := fun _ _ _ _  => by kernel_rfl
noncomputable def o9 := ob Tryz.f70 [.l]
def B9 (P : PT) (x0 : Value) (x1 : Int) (H : AHeap) : Prop :=
  B8 P x0 x1 H
theorem q9 (P : PT) : QB Tryz.prog T0 30 o9 (En 30 k4 (B8 P)) k4 (B9 P) := fun _ _ _ _  => by kernel_rfl
noncomputable def code : Code := (.seq (.region 0 ⟨o9⟩ false) (.seq (.region 1 ⟨o8⟩ false) (.seq (.seq (.region 2 ⟨o7⟩ false) (.block 0 (.loop (.seq (.seq (.region 3 ⟨o6⟩ false) (.cond (.tmp 11) .skip (.exit 0))) (.seq (.block 1 (.seq (.region 5 ⟨o5⟩ false) (.region 6 ⟨o4⟩ true))) (.region 4 ⟨o3⟩ false)))))) (.seq (.region 7 ⟨o1⟩ false) .ret))))
theorem body : Tryz.f70.body = some code := by kernel_rfl
theorem main (P : PT) : ∀ env H, (En 30 k4 (B9 P)) env H → AW Tryz.prog T0 code env H (mkQ (ret P) (fun _ _ _ => False) (ret P)) :=
  (r_seq (rB T0_ok (q9 P)) (r_seq (rB T0_ok (q8 P)) (r_seq (r_seq (rB T0_ok (q7 P)) (r_block (rL (l2 P) (fun N2 => (r_seq (r_seq (rB T0_ok (q6 P N2)) (r_cond rfl r_skip (r_exit (fun _ _ h => h)))) (r_seq (r_block (r_seq (rB T0_ok (q5 P N2)) (rT T0_ok mixed (.op 0 [] (.op 1 [] (.op 2 [] (.op 4 [] (.op 7 [] (.op 8 [] (.op 9 [] (.alt (.op 3 [9] (.op 5 [] (.op 6 [9] (.op 10 [] (.op 11 [] .done))))) (.op 5 [] (.op 3 [9] (.op 6 [9] (.op 10 [] (.op 11 [] .done))))))))))))) (by kernel_rfl) (q4 P N2)))) (rB T0_ok (q3 P N2)))))))) (r_seq (rB T0_ok (q1 P)) r_ret))))
theorem ac (P : PT) (x0 : Value) (x1 : Int) (H : AHeap) (h : B9 P x0 x1 H) : AC Tryz.prog T0 70 [x0, (Value.int .i64 x1)] H P :=
  r_fn T0_ok (c := code) (n := 30) Tryz.func70 body (by kernel_rfl) (main P) (En_mk (x0, x1, ()) (by kernel_rfl) ⟨by kernel_rfl, by kernel_rfl, trivial⟩ h)

end F70
-- loop.example/g01329/impl.graphCode
namespace F72
noncomputable def ret (P : PT) : EP := retE T0 12 Tryz.f72 P
abbrev k0 : Sk := []
noncomputable def o1 := ob Tryz.f72 [.r,.r,.l]
def B1 (P : PT) (H : AHeap) : Prop :=
  P (Value.int .i64 0) H
theorem q1 (P : PT) : QB Tryz.prog T0 12 o1 (ret P) k0 (B1 P) := fun _ _  => by kernel_rfl
noncomputable def o2 := ob Tryz.f72 [.r,.l,.l,.r,.l,.l]
def B2 (P : PT) (H : AHeap) : Prop :=
  P (Value.int .i64 1) H
theorem q2 (P : PT) : QB Tryz.prog T0 12 o2 (ret P) k0 (B2 P) := fun _ _  => by kernel_rfl
noncomputable def o3 := ob Tryz.f72 [.r,.l,.l,.r,.r,.r,.l,.l]
def B3 (P : PT) (H : AHeap) : Prop :=
  P (Value.int .i64 2) H
theorem q3 (P : PT) : QB Tryz.prog T0 12 o3 (ret P) k0 (B3 P) := fun _ _  => by kernel_rfl
abbrev k1 : Sk := [(1,.b)]
noncomputable def o4 := ob Tryz.f72 [.r,.l,.l,.r,.r,.l]
def B4 (P : PT) (x1 : Bool) (H : AHeap) : Prop :=
  pif (!x1) (B3 P H) (B1 P H)
theorem q4 (P : PT) : QB Tryz.prog T0 12 o4 (cnd 9 (En 12 k0 (B3 P)) (En 12 k0 (B1 P))) k1 (B4 P) := fun _ _ _  => by kernel_rfl
abbrev k2 : Sk := [(1,.b),(2,.x)]
noncomputable def o5 := ob Tryz.f72 [.r,.l,.l,.l]
def B5 (P : PT) (x1 : Bool) (x2 : Nat) (H : AHeap) : Prop :=
  ldI .i64 H x2 0 (fun v1 => ld1 H x2 1 (fun v2 => AC Tryz.prog T0 143 [(Value.agg ⟨[(Value.int .i64 v1), v2]⟩)] H (fun v3 H4 => asB v3 (fun v5 => pif (!v5) (B2 P H4) (B4 P x1 H4)))))
theorem q5 (P : PT) : QB Tryz.prog T0 12 o5 (cnd 5 (En 12 k0 (B2 P)) (En 12 k1 (B4 P))) k2 (B5 P) := fun _ _ _ _  => by kernel_rfl
abbrev k3 : Sk := [(0,.g [.i,.v]),(1,.b)]
noncomputable def o6 := ob Tryz.f72 [.l]
def B6 (P : PT) (x0a : Int) (x0b : Value) (x1 : Bool) (H : AHeap) : Prop :=
  newK H [(Value.int .i64 x0a), x0b] 26 (fun b1 H2 => B5 P x1 b1 H2)
theorem q6 (P : PT) : QB Tryz.prog T0 12 o6 (En 12 k2 (B5 P)) k3 (B6 P) := fun _ _ _ _ _  => by kernel_rfl
noncomputable def code : Code := (.seq (.region 0 ⟨o6⟩ false) (.seq (.block 0 (.seq (.region 1 ⟨o5⟩ false) (.cond (.tmp 5) (.seq (.region 2 ⟨o2⟩ false) .ret) (.seq (.region 3 ⟨o4⟩ false) (.cond (.tmp 9) (.seq (.region 4 ⟨o3⟩ false) .ret) .skip))))) (.seq (.region 5 ⟨o1⟩ false) .ret)))
theorem body : Tryz.f72.body = some code := by kernel_rfl
theorem main (P : PT) : ∀ env H, (En 12 k3 (B6 P)) env H → AW Tryz.prog T0 code env H (mkQ (ret P) (fun _ _ _ => False) (ret P)) :=
  (r_seq (rB T0_ok (q6 P)) (r_seq (r_block (r_seq (rB T0_ok (q5 P)) (r_cond rfl (r_seq (rB T0_ok (q2 P)) r_ret) (r_seq (rB T0_ok (q4 P)) (r_cond rfl (r_seq (rB T0_ok (q3 P)) r_ret) r_skip))))) (r_seq (rB T0_ok (q1 P)) r_ret)))
theorem ac (P : PT) (x0a : Int) (x0b : Value) (x1 : Bool) (H : AHeap) (h : B6 P x0a x0b x1 H) : AC Tryz.prog T0 72 [(Value.agg ⟨[(Value.int .i64 x0a), x0b]⟩), (Value.bool x1)] H P :=
  r_fn T0_ok (c := code) (n := 12) Tryz.func72 body (by kernel_rfl) (main P) (En_mk (x0a, x0b, x1, ()) (by kernel_rfl) ⟨by kernel_rfl, by kernel_rfl, trivial⟩ h)

end F72
-- loop.example/g01329/impl.length[loop.example/g01329/impl.Edge]
namespace F73
noncomputable def ret (P : PT) : EP := retE T0 5 Tryz.f73 P
abbrev k0 : Sk := [(0,.v)]
noncomputable def o1 := ob Tryz.f73 [.r,.l]
def B1 (P : PT) (x0 : Value) (H : AHeap) : Prop :=
  lenK x0 (fun n1 => P (Value.int .i64 (n1 : Int)) H)
theorem q1 (P : PT) : QB Tryz.prog T0 5 o1 (ret P) k0 (B1 P) := fun _ _ _  => by kernel_rfl
noncomputable def o2 := ob Tryz.f73 [.l]
def B2 (P : PT) (x0 : Value) (H : AHeap) : Prop :=
  B1 P x0 H
theorem q2 (P : PT) : QB Tryz.prog T0 5 o2 (En 5 k0 (B1 P)) k0 (B2 P) := fun _ _ _  => by kernel_rfl
noncomputable def code : Code := (.seq (.region 0 ⟨o2⟩ false) (.seq (.region 1 ⟨o1⟩ false) .ret))
theorem body : Tryz.f73.body = some code := by kernel_rfl
theorem main (P : PT) : ∀ env H, (En 5 k0 (B2 P)) env H → AW Tryz.prog T0 code env H (mkQ (ret P) (fun _ _ _ => False) (ret P)) :=
  (r_seq (rB T0_ok (q2 P)) (r_seq (rB T0_ok (q1 P)) r_ret))
theorem ac (P : PT) (x0 : Value) (H : AHeap) (h : B2 P x0 H) : AC Tryz.prog T0 73 [x0] H P :=
  r_fn T0_ok (c := code) (n := 5) Tryz.func73 body (by kernel_rfl) (main P) (En_mk (x0, ()) (by kernel_rfl) ⟨by kernel_rfl, trivial⟩ h)

end F73
-- (loop.example/g01329/impl.Graph).isCut
namespace F74
noncomputable def ret (P : PT) : EP := retE T0 13 Tryz.f74 P
abbrev k0 : Sk := [(1,.i .u64),(2,.x)]
noncomputable def o1 := ob Tryz.f74 [.r,.l]
def B1 (P : PT) (x1 : Int) (x2 : Nat) (H : AHeap) : Prop :=
  ldI .i64 H x2 0 (fun v1 => ld1 H x2 1 (fun v2 => ldI .i64 H x2 0 (fun v3 => ld1 H x2 1 (fun v4 => AC Tryz.prog T0 103 [(Value.agg ⟨[(Value.int .i64 v1), v2]⟩), (Value.int .u64 x1)] H (fun v5 H6 => (AHeap.le H H6) ∧ (lenK v5 (fun n8 => AC Tryz.prog T0 103 [(Value.agg ⟨[(Value.int .i64 v3), v4]⟩), (Value.int .u64 0)] H6 (fun v9 H10 => lenK v9 (fun n12 => P (Value.bool (decide (((n8 : Int) : Int) > (n12 : Int)))) H10)))))))))
theorem q1 (P : PT) : QD Tryz.prog T0 13 o1 [(0, false), (1, false), (4, false), (2, true), (3, false), (5, false), (6, false), (7, false), (8, false)] (ret P) k0 (B1 P) := fun _ _ _ _  => by kernel_rfl
abbrev k1 : Sk := [(0,.g [.i,.v]),(1,.i .u64)]
noncomputable def o2 := ob Tryz.f74 [.l]
def B2 (P : PT) (x0a : Int) (x0b : Value) (x1 : Int) (H : AHeap) : Prop :=
  newK H [(Value.int .i64 x0a), x0b] 26 (fun b1 H2 => B1 P x1 b1 H2)
theorem q2 (P : PT) : QB Tryz.prog T0 13 o2 (En 13 k0 (B1 P)) k1 (B2 P) := fun _ _ _ _ _  => by kernel_rfl
noncomputable def code : Code := (.seq (.region 0 ⟨o2⟩ false) (.seq (.region 1 ⟨o1⟩ true) .ret))
theorem body : Tryz.f74.body = some code := by kernel_rfl
theorem main (P : PT) : ∀ env H, (En 13 k1 (B2 P)) env H → AW Tryz.prog T0 code env H (mkQ (ret P) (fun _ _ _ => False) (ret P)) :=
  (r_seq (rB T0_ok (q2 P)) (r_seq (rD T0_ok mixed [(0, false), (1, false), (4, false), (2, true), (3, false), (5, false), (6, false), (7, false), (8, false)] (by kernel_rfl) (q1 P)) r_ret))
theorem ac (P : PT) (x0a : Int) (x0b : Value) (x1 : Int) (H : AHeap) (h : B2 P x0a x0b x1 H) : AC Tryz.prog T0 74 [(Value.agg ⟨[(Value.int .i64 x0a), x0b]⟩), (Value.int .u64 x1)] H P :=
  r_fn T0_ok (c := code) (n := 13) Tryz.func74 body (by kernel_rfl) (main P) (En_mk (x0a, x0b, x1, ()) (by kernel_rfl) ⟨by kernel_rfl, by kernel_rfl, trivial⟩ h)

end F74
-- loop.example/g01329/spec.l01Is
namespace F75
noncomputable def ret (P : PT) : EP := retE T0 56 Tryz.f75 P
abbrev k0 : Sk := []
noncomputable def o1 := ob Tryz.f75 [.r,.r,.r,.l]
def B1 (P : PT) (H : AHeap) : Prop :=
  P (Value.bool true) H
theorem q1 (P : PT) : QB Tryz.prog T0 56 o1 (ret P) k0 (B1 P) := fun _ _  => by kernel_rfl
abbrev k1 : Sk := [(1,.x),(3,.i .i64)]
noncomputable def o3 := ob Tryz.f75 [.r,.r,.l,.r,.l,.l,.r,.r]
def B3 (P : PT) (N2 : NTy k1 Pr) (x1 : Nat) (x3 : Int) (H : AHeap) : Prop :=
  N2 x1 (IntKind.i64.wrap (x3 + 1)) H
theorem q3 (P : PT) (N2 : NTy k1 Pr) : QB Tryz.prog T0 56 o3 (En 56 k1 N2) k1 (B3 P N2) := fun _ _ _ _  => by kernel_rfl
noncomputable def o4 := ob Tryz.f75 [.r,.r,.l,.r,.l,.l,.r,.l,.l,.r,.l,.l]
def B4 (P : PT) (N2 : NTy k1 Pr) (H : AHeap) : Prop :=
  P (Value.bool false) H
theorem q4 (P : PT) (N2 : NTy k1 Pr) : QB Tryz.prog T0 56 o4 (ret P) k0 (B4 P N2) := fun _ _  => by kernel_rfl
noncomputable def o5 := ob Tryz.f75 [.r,.r,.l,.r,.l,.l,.r,.l,.l,.l]
def B5 (P : PT) (N2 : NTy k1 Pr) (x1 : Nat) (x3 : Int) (H : AHeap) : Prop :=
  ld1 H x1 1 (fun v1 => idxK v1 x3 2 (fun b2 o3 => ldI .i64 H b2 o3 (fun v4 => ld1 H x1 1 (fun v5 => idxK v5 x3 2 (fun b6 o7 => ldI .i64 H b6 (o7 + 1) (fun v8 => pif (decide ((v4 : Int) > v8)) (B4 P N2 H) (pif (decide ((x3 : Int) > 0)) (ld1 H x1 1 (fun v9 => idxK v9 x3 2 (fun b10 o11 => ldI .i64 H b10 o11 (fun v12 => ldI .i64 H b10 (o11 + 1) (fun v13 => ld1 H x1 1 (fun v14 => idxK v14 (IntKind.i64.wrap (x3 - 1)) 2 (fun b15 o16 => ldI .i64 H b15 o16 (fun v17 => ldI .i64 H b15 (o16 + 1) (fun v18 => AC Tryz.prog T0 146 [(Value.agg ⟨[(Value.int .i64 v12), (Value.int .i64 v13)]⟩), (Value.agg ⟨[(Value.int .i64 v17), (Value.int .i64 v18)]⟩)] H (fun v19 H20 => asB v19 (fun v21 => pif v21 (B4 P N2 H20) (B3 P N2 x1 x3 H20)))))))))))) (B3 P N2 x1 x3 H))))))))
theorem q5 (P : PT) (N2 : NTy k1 Pr) : QD Tryz.prog T0 56 o5 [(0, false), (1, false), (2, false), (3, false), (4, false), (5, false), (6, false), (7, false), (8, false), (9, false), (10, false), (11, false), (12, false), (13, false), (14, false), (15, false), (16, false), (17, false), (18, false), (19, false), (20, false), (21, false), (22, false), (23, false), (24, false), (25, false), (26, false), (27, false), (28, false), (29, false), (30, false)] (cnd 55 (En 56 k0 (B4 P N2)) (En 56 k1 (B3 P N2))) k1 (B5 P N2) := fun _ _ _ _  => by kernel_rfl
noncomputable def o6 := ob Tryz.f75 [.r,.r,.l,.r,.l,.l,.l,.l]
def B6 (P : PT) (N2 : NTy k1 Pr) (x1 : Nat) (x3 : Int) (H : AHeap) : Prop :=
  ld1 H x1 1 (fun v1 => lenK v1 (fun n2 => pif (decide ((x3 : Int) < (n2 : Int))) (B5 P N2 x1 x3 H) (B1 P H)))
theorem q6 (P : PT) (N2 : NTy k1 Pr) : QB Tryz.prog T0 56 o6 (cnd 22 (En 56 k1 (B5 P N2)) (En 56 k0 (B1 P))) k1 (B6 P N2) := fun _ _ _ _  => by kernel_rfl
def L2 (P : PT) (x1 : Nat) (x3 : Int) (H : AHeap) : Prop :=
  ∃ (I : NTy k1 Pr) (μ : NTy k1 (AHeap → Nat)), I x1 x3 H ∧ ∀ y1 y3 G, I y1 y3 G → B6 P (fun z1 z3 G' => I z1 z3 G' ∧ μ z1 z3 G' < μ y1 y3 G) y1 y3 G
theorem l2 (P : PT) : LQ k1 (L2 P) (B6 P) := fun ⟨_,_,_⟩ _ ⟨I, μ, h0, hI⟩ => ⟨apT _ I, apT _ μ, h0, fun ⟨_,_,_⟩ _ h => hI _ _ _  h⟩
abbrev k2 : Sk := [(1,.x)]
noncomputable def o7 := ob Tryz.f75 [.r,.r,.l,.l]
def B7 (P : PT) (x1 : Nat) (H : AHeap) : Prop :=
  L2 P x1 0 H
theorem q7 (P : PT) : QB Tryz.prog T0 56 o7 (En 56 k1 (L2 P)) k2 (B7 P) := fun _ _ _  => by kernel_rfl
noncomputable def o8 := ob Tryz.f75 [.r,.l,.r,.l,.l]
def B8 (P : PT) (H : AHeap) : Prop :=
  P (Value.bool false) H
theorem q8 (P : PT) : QB Tryz.prog T0 56 o8 (ret P) k0 (B8 P) := fun _ _  => by kernel_rfl
noncomputable def o9 := ob Tryz.f75 [.r,.l,.l]
def B9 (P : PT) (x1 : Nat) (H : AHeap) : Prop :=
  ldI .i64 H x1 0 (fun v1 => ld1 H x1 1 (fun v2 => AC Tryz.prog T0 144 [(Value.int .i64 v1), v2] H (fun v3 H4 => asI .i64 v3 (fun v5 => pif ((v5 : Int) != 0) (B8 P H4) (ldI .i64 H4 x1 0 (fun v6 => ld1 H4 x1 1 (fun v7 => AC Tryz.prog T0 145 [(Value.int .i64 v6), v7] H4 (fun v8 H9 => asB v8 (fun v10 => pif (!v10) (B8 P H9) (B7 P x1 H9))))))))))
theorem q9 (P : PT) : QB Tryz.prog T0 56 o9 (cnd 17 (En 56 k0 (B8 P)) (En 56 k2 (B7 P))) k2 (B9 P) := fun _ _ _  => by kernel_rfl
abbrev k3 : Sk := [(0,.g [.i,.v])]
noncomputable def o10 := ob Tryz.f75 [.l]
def B10 (P : PT) (x0a : Int) (x0b : Value) (H : AHeap) : Prop :=
  newK H [(Value.int .i64 x0a), x0b] 26 (fun b1 H2 => B9 P b1 H2)
theorem q10 (P : PT) : QB Tryz.prog T0 56 o10 (En 56 k2 (B9 P)) k3 (B10 P) := fun _ _ _ _  => by kernel_rfl
noncomputable def code : Code := (.seq (.region 0 ⟨o10⟩ false) (.seq (.seq (.region 1 ⟨o9⟩ false) (.cond (.tmp 17) (.seq (.region 2 ⟨o8⟩ false) .ret) .skip)) (.seq (.seq (.region 3 ⟨o7⟩ false) (.block 0 (.loop (.seq (.seq (.region 4 ⟨o6⟩ false) (.cond (.tmp 22) .skip (.exit 0))) (.seq (.block 1 (.seq (.region 6 ⟨o5⟩ true) (.cond (.tmp 55) (.seq (.region 7 ⟨o4⟩ false) .ret) .skip))) (.region 5 ⟨o3⟩ false)))))) (.seq (.region 8 ⟨o1⟩ false) .ret))))
theorem body : Tryz.f75.body = some code := by kernel_rfl
theorem main (P : PT) : ∀ env H, (En 56 k3 (B10 P)) env H → AW Tryz.prog T0 code env H (mkQ (ret P) (fun _ _ _ => False) (ret P)) :=
  (r_seq (rB T0_ok (q10 P)) (r_seq (r_seq (rB T0_ok (q9 P)) (r_cond rfl (r_seq (rB T0_ok (q8 P)) r_ret) r_skip)) (r_seq (r_seq (rB T0_ok (q7 P)) (r_block (rL (l2 P) (fun N2 => (r_seq (r_seq (rB T0_ok (q6 P N2)) (r_cond rfl r_skip (r_exit (fun _ _ h => h)))) (r_seq (r_block (r_seq (rD T0_ok mixed [(0, false), (1, false), (2, false), (3, false), (4, false), (5, false), (6, false), (7, false), (8, false), (9, false), (10, false), (11, false), (12, false), (13, false), (14, false), (15, false), (16, false), (17, false), (18, false), (19, false), (20, false), (21, false), (22, false), (23, false), (24, false), (25, false), (26, false), (27, false), (28, false), (29, false), (30, false)] (by kernel_rfl) (q5 P N2)) (r_cond rfl (r_seq (rB T0_ok (q4 P N2)) r_ret) r_skip))) (rB T0_ok (q3 P N2)))))))) (r_seq (rB T0_ok (q1 P)) r_ret))))
theorem ac (P : PT) (x0a : Int) (x0b : Value) (H : AHeap) (h : B10 P x0a x0b H) : AC Tryz.prog T0 75 [(Value.agg ⟨[(Value.int .i64 x0a), x0b]⟩)] H P :=
  r_fn T0_ok (c := code) (n := 56) Tryz.func75 body (by kernel_rfl) (main P) (En_mk (x0a, x0b, ()) (by kernel_rfl) ⟨by kernel_rfl, trivial⟩ h)

end F75
-- loop.example/g01329/impl.within
namespace F77
noncomputable def ret (P : PT) : EP := retE T0 15 Tryz.f77 P
abbrev k0 : Sk := [(0,.i .i64),(1,.i .i64),(2,.i .i64)]
noncomputable def o1 := ob Tryz.f77 [.r,.l]
def B1 (P : PT) (x0 x1 x2 : Int) (H : AHeap) : Prop :=
  pif (decide ((x1 : Int) ≤ x0)) (P (Value.bool (decide ((x0 : Int) ≤ x2))) H) (P (Value.bool false) H)
theorem q1 (P : PT) : QB Tryz.prog T0 15 o1 (ret P) k0 (B1 P) := fun _ _ _ _ _  => by kernel_rfl
noncomputable def o2 := ob Tryz.f77 [.l]
def B2 (P : PT) (x0 x1 x2 : Int) (H : AHeap) : Prop :=
  B1 P x0 x1 x2 H
theorem q2 (P : PT) : QB Tryz.prog T0 15 o2 (En 15 k0 (B1 P)) k0 (B2 P) := fun _ _ _ _ _  => by kernel_rfl
noncomputable def code : Code := (.seq (.region 0 ⟨o2⟩ false) (.seq (.region 1 ⟨o1⟩ false) .ret))
theorem body : Tryz.f77.body = some code := by kernel_rfl
theorem main (P : PT) : ∀ env H, (En 15 k0 (B2 P)) env H → AW Tryz.prog T0 code env H (mkQ (ret P) (fun _ _ _ => False) (ret P)) :=
  (r_seq (rB T0_ok (q2 P)) (r_seq (rB T0_ok (q1 P)) r_ret))
theorem ac (P : PT) (x0 x1 x2 : Int) (H : AHeap) (h : B2 P x0 x1 x2 H) : AC Tryz.prog T0 77 [(Value.int .i64 x0), (Value.int .i64 x1), (Value.int .i64 x2)] H P :=
  r_fn T0_ok (c := code) (n := 15) Tryz.func77 body (by kernel_rfl) (main P) (En_mk (x0, x1, x2, ()) (by kernel_rfl) ⟨by kernel_rfl, by kernel_rfl, by kernel_rfl, trivial⟩ h)

end F77
-- (loop.example/g01329/impl.Graph).isBond
namespace F80
noncomputable def ret (P : PT) : EP := retE T0 47 Tryz.f80 P
abbrev k0 : Sk := [(1,.i .u64),(2,.x),(6,.x)]
noncomputable def o1 := ob Tryz.f80 [.r,.r,.r,.r,.r,.l]
def B1 (P : PT) (x1 : Int) (x2 x6 : Nat) (H : AHeap) : Prop :=
  AC Tryz.prog T0 81 [(Value.int .u64 x1)] H (fun v1 H2 => AC Tryz.prog T0 148 [v1, (Value.func (.func 149) ⟨[]⟩ ⟨[(Value.pointer (some ⟨x6, 0, none⟩)), (Value.pointer (some ⟨x2, 0, none⟩))]⟩)] H2 (fun v4 H5 => asB v4 (fun v6 => P (Value.bool v6) H5)))
theorem q1 (P : PT) : QB Tryz.prog T0 47 o1 (ret P) k0 (B1 P) := fun _ _ _ _ _  => by kernel_rfl
abbrev k1 : Sk := [(1,.i .u64),(2,.x),(6,.x),(24,.v),(25,.i .i64),(26,.i .i64)]
noncomputable def o3 := ob Tryz.f80 [.r,.r,.r,.r,.l,.r,.l,.l,.r,.r,.r]
def B3 (P : PT) (N2 : NTy k1 Pr) (x1 : Int) (x2 x6 : Nat) (x24 : Value) (x25 x26 : Int) (H : AHeap) : Prop :=
  N2 x1 x2 x6 x24 x25 (IntKind.i64.wrap (x26 + 1)) H
theorem q3 (P : PT) (N2 : NTy k1 Pr) : QB Tryz.prog T0 47 o3 (En 47 k1 N2) k1 (B3 P N2) := fun _ _ _ _ _ _ _ _  => by kernel_rfl
abbrev k2 : Sk := [(1,.i .u64),(2,.x),(6,.x),(7,.i .i64),(24,.v),(25,.i .i64),(26,.i .i64),(31,.v),(32,.i .i64),(33,.i .i64)]
noncomputable def o5 := ob Tryz.f80 [.r,.r,.r,.r,.l,.r,.l,.l,.r,.r,.l,.l,.r,.r,.l,.l,.r,.r,.r]
def B5 (P : PT) (N2 : NTy k1 Pr) (N4 : NTy k2 Pr) (x1 : Int) (x2 x6 : Nat) (x7 : Int) (x24 : Value) (x25 x26 : Int) (x31 : Value) (x32 x33 : Int) (H : AHeap) : Prop :=
  N4 x1 x2 x6 x7 x24 x25 x26 x31 x32 (IntKind.i64.wrap (x33 + 1)) H
theorem q5 (P : PT) (N2 : NTy k1 Pr) (N4 : NTy k2 Pr) : QB Tryz.prog T0 47 o5 (En 47 k2 N4) k2 (B5 P N2 N4) := fun _ _ _ _ _ _ _ _ _ _ _ _  => by kernel_rfl
abbrev k3 : Sk := [(1,.i .u64),(2,.x),(6,.x),(7,.i .i64),(10,.i .i64),(24,.v),(25,.i .i64),(26,.i .i64),(31,.v),(32,.i .i64),(33,.i .i64)]
noncomputable def o6 := ob Tryz.f80 [.r,.r,.r,.r,.l,.r,.l,.l,.r,.r,.l,.l,.r,.r,.l,.l,.r,.r,.l,.l,.r]
def B6 (P : PT) (N2 : NTy k1 Pr) (N4 : NTy k2 Pr) (x1 : Int) (x2 x6 : Nat) (x7 x10 : Int) (x24 : Value) (x25 x26 : Int) (x31 : Value) (x32 x33 : Int) (H : AHeap) : Prop :=
  ld1 H x6 0 (fun v1 => idxK v1 x10 1 (fun b2 o3 => stK H b2 o3 [(Value.int .i64 x7)] (fun H4 => B5 P N2 N4 x1 x2 x6 x7 x24 x25 x26 x31 x32 x33 H4)))
theorem q6 (P : PT) (N2 : NTy k1 Pr) (N4 : NTy k2 Pr) : QB Tryz.prog T0 47 o6 (En 47 k2 (B5 P N2 N4)) k3 (B6 P N2 N4) := fun _ _ _ _ _ _ _ _ _ _ _ _ _  => by kernel_rfl
noncomputable def o7 := ob Tryz.f80 [.r,.r,.r,.r,.l,.r,.l,.l,.r,.r,.l,.l,.r,.r,.l,.l,.r,.r,.l,.l,.l]
def B7 (P : PT) (N2 : NTy k1 Pr) (N4 : NTy k2 Pr) (x1 : Int) (x2 x6 : Nat) (x7 : Int) (x24 : Value) (x25 x26 : Int) (x31 : Value) (x32 x33 : Int) (H : AHeap) : Prop :=
  idxK x31 x33 1 (fun b1 o2 => ldI .i64 H b1 o2 (fun v3 => B6 P N2 N4 x1 x2 x6 x7 v3 x24 x25 x26 x31 x32 x33 H))
theorem q7 (P : PT) (N2 : NTy k1 Pr) (N4 : NTy k2 Pr) : QB Tryz.prog T0 47 o7 (En 47 k3 (B6 P N2 N4)) k2 (B7 P N2 N4) := fun _ _ _ _ _ _ _ _ _ _ _ _  => by kernel_rfl
noncomputable def o8 := ob Tryz.f80 [.r,.r,.r,.r,.l,.r,.l,.l,.r,.r,.l,.l,.r,.r,.l,.l,.l]
def B8 (P : PT) (N2 : NTy k1 Pr) (N4 : NTy k2 Pr) (x1 : Int) (x2 x6 : Nat) (x7 : Int) (x24 : Value) (x25 x26 : Int) (x31 : Value) (x32 x33 : Int) (H : AHeap) : Prop :=
  pif (decide ((x33 : Int) < x32)) (B7 P N2 N4 x1 x2 x6 x7 x24 x25 x26 x31 x32 x33 H) (B3 P N2 x1 x2 x6 x24 x25 x26 H)
theorem q8 (P : PT) (N2 : NTy k1 Pr) (N4 : NTy k2 Pr) : QB Tryz.prog T0 47 o8 (cnd 34 (En 47 k2 (B7 P N2 N4)) (En 47 k1 (B3 P N2))) k2 (B8 P N2 N4) := fun _ _ _ _ _ _ _ _ _ _ _ _  => by kernel_rfl
def L4 (P : PT) (N2 : NTy k1 Pr) (x1 : Int) (x2 x6 : Nat) (x7 : Int) (x24 : Value) (x25 x26 : Int) (x31 : Value) (x32 x33 : Int) (H : AHeap) : Prop :=
  ∃ (I : NTy k2 Pr) (μ : NTy k2 (AHeap → Nat)), I x1 x2 x6 x7 x24 x25 x26 x31 x32 x33 H ∧ ∀ y1 y2 y6 y7 y24 y25 y26 y31 y32 y33 G, I y1 y2 y6 y7 y24 y25 y26 y31 y32 y33 G → B8 P N2 (fun z1 z2 z6 z7 z24 z25 z26 z31 z32 z33 G' => I z1 z2 z6 z7 z24 z25 z26 z31 z32 z33 G' ∧ μ z1 z2 z6 z7 z24 z25 z26 z31 z32 z33 G' < μ y1 y2 y6 y7 y24 y25 y26 y31 y32 y33 G) y1 y2 y6 y7 y24 y25 y26 y31 y32 y33 G
theorem l4 (P : PT) (N2 : NTy k1 Pr) : LQ k2 (L4 P N2) (B8 P N2) := fun ⟨_,_,_,_,_,_,_,_,_,_,_⟩ _ ⟨I, μ, h0, hI⟩ => ⟨apT _ I, apT _ μ, h0, fun ⟨_,_,_,_,_,_,_,_,_,_,_⟩ _ h => hI _ _ _ _ _ _ _ _ _ _ _  h⟩
abbrev k4 : Sk := [(1,.i .u64),(2,.x),(6,.x),(7,.i .i64),(8,.v),(24,.v),(25,.i .i64),(26,.i .i64)]
noncomputable def o9 := ob Tryz.f80 [.r,.r,.r,.r,.l,.r,.l,.l,.r,.r,.l,.l,.r,.l]
def B9 (P : PT) (N2 : NTy k1 Pr) (x1 : Int) (x2 x6 : Nat) (x7 : Int) (x8 x24 : Value) (x25 x26 : Int) (H : AHeap) : Prop :=
  lenK x8 (fun n1 => L4 P N2 x1 x2 x6 x7 x24 x25 x26 x8 (n1 : Int) 0 H)
theorem q9 (P : PT) (N2 : NTy k1 Pr) : QB Tryz.prog T0 47 o9 (En 47 k2 (L4 P N2)) k4 (B9 P N2) := fun _ _ _ _ _ _ _ _ _ _  => by kernel_rfl
noncomputable def o10 := ob Tryz.f80 [.r,.r,.r,.r,.l,.r,.l,.l,.r,.r,.l,.l,.l]
def B10 (P : PT) (N2 : NTy k1 Pr) (x1 : Int) (x2 x6 : Nat) (x24 : Value) (x25 x26 : Int) (H : AHeap) : Prop :=
  idxK x24 x26 1 (fun b1 o2 => ld1 H b1 o2 (fun v3 => B9 P N2 x1 x2 x6 x26 v3 x24 x25 x26 H))
theorem q10 (P : PT) (N2 : NTy k1 Pr) : QB Tryz.prog T0 47 o10 (En 47 k4 (B9 P N2)) k1 (B10 P N2) := fun _ _ _ _ _ _ _ _  => by kernel_rfl
noncomputable def o11 := ob Tryz.f80 [.r,.r,.r,.r,.l,.r,.l,.l,.l]
def B11 (P : PT) (N2 : NTy k1 Pr) (x1 : Int) (x2 x6 : Nat) (x24 : Value) (x25 x26 : Int) (H : AHeap) : Prop :=
  pif (decide ((x26 : Int) < x25)) (B10 P N2 x1 x2 x6 x24 x25 x26 H) (B1 P x1 x2 x6 H)
theorem q11 (P : PT) (N2 : NTy k1 Pr) : QB Tryz.prog T0 47 o11 (cnd 27 (En 47 k1 (B10 P N2)) (En 47 k0 (B1 P))) k1 (B11 P N2) := fun _ _ _ _ _ _ _ _  => by kernel_rfl
def L2 (P : PT) (x1 : Int) (x2 x6 : Nat) (x24 : Value) (x25 x26 : Int) (H : AHeap) : Prop :=
  ∃ (I : NTy k1 Pr) (μ : NTy k1 (AHeap → Nat)), I x1 x2 x6 x24 x25 x26 H ∧ ∀ y1 y2 y6 y24 y25 y26 G, I y1 y2 y6 y24 y25 y26 G → B11 P (fun z1 z2 z6 z24 z25 z26 G' => I z1 z2 z6 z24 z25 z26 G' ∧ μ z1 z2 z6 z24 z25 z26 G' < μ y1 y2 y6 y24 y25 y26 G) y1 y2 y6 y24 y25 y26 G
theorem l2 (P : PT) : LQ k1 (L2 P) (B11 P) := fun ⟨_,_,_,_,_,_,_⟩ _ ⟨I, μ, h0, hI⟩ => ⟨apT _ I, apT _ μ, h0, fun ⟨_,_,_,_,_,_,_⟩ _ h => hI _ _ _ _ _ _ _  h⟩
abbrev k5 : Sk := [(1,.i .u64),(2,.x),(5,.v),(6,.x)]
noncomputable def o12 := ob Tryz.f80 [.r,.r,.r,.r,.l,.l]
def B12 (P : PT) (x1 : Int) (x2 : Nat) (x5 : Value) (x6 : Nat) (H : AHeap) : Prop :=
  lenK x5 (fun n1 => L2 P x1 x2 x6 x5 (n1 : Int) 0 H)
theorem q12 (P : PT) : QB Tryz.prog T0 47 o12 (En 47 k1 (L2 P)) k5 (B12 P) := fun _ _ _ _ _ _  => by kernel_rfl
abbrev k6 : Sk := [(1,.i .u64),(2,.x),(5,.v)]
noncomputable def o13 := ob Tryz.f80 [.r,.r,.r,.l]
def B13 (P : PT) (x1 : Int) (x2 : Nat) (x5 : Value) (H : AHeap) : Prop :=
  ldI .i64 H x2 0 (fun v1 => mkR H 8 3 [(Value.int .i64 0)] v1 v1 (fun v3 H2 => newK H2 [(Value.slice none 0 0)] 138 (fun b4 H5 => pif (Value.oneCell' v3) (stK H5 b4 0 [v3] (fun H6 => B12 P x1 x2 x5 b4 H6)) False)))
theorem q13 (P : PT) : QB Tryz.prog T0 47 o13 (En 47 k5 (B12 P)) k6 (B13 P) := fun _ _ _ _ _  => by kernel_rfl
abbrev k7 : Sk := []
noncomputable def o14 := ob Tryz.f80 [.r,.r,.l,.r,.l,.l]
def B14 (P : PT) (H : AHeap) : Prop :=
  P (Value.bool false) H
theorem q14 (P : PT) : QB Tryz.prog T0 47 o14 (ret P) k7 (B14 P) := fun _ _  => by kernel_rfl
noncomputable def o15 := ob Tryz.f80 [.r,.r,.l,.l]
def B15 (P : PT) (x1 : Int) (x2 : Nat) (x5 : Value) (H : AHeap) : Prop :=
  lenK x5 (fun n1 => ldI .i64 H x2 0 (fun v2 => ld1 H x2 1 (fun v3 => AC Tryz.prog T0 103 [(Value.agg ⟨[(Value.int .i64 v2), v3]⟩), (Value.int .u64 0)] H (fun v4 H5 => lenK v4 (fun n7 => pif (((n1 : Int) : Int) != (IntKind.i64.wrap ((n7 : Int) + 1))) (B14 P H5) (B13 P x1 x2 x5 H5))))))
theorem q15 (P : PT) : QB Tryz.prog T0 47 o15 (cnd 20 (En 47 k7 (B14 P)) (En 47 k6 (B13 P))) k6 (B15 P) := fun _ _ _ _ _  => by kernel_rfl
abbrev k8 : Sk := [(1,.i .u64),(2,.x)]
noncomputable def o16 := ob Tryz.f80 [.r,.l]
def B16 (P : PT) (x1 : Int) (x2 : Nat) (H : AHeap) : Prop :=
  ldI .i64 H x2 0 (fun v1 => ld1 H x2 1 (fun v2 => AC Tryz.prog T0 103 [(Value.agg ⟨[(Value.int .i64 v1), v2]⟩), (Value.int .u64 x1)] H (fun v3 H4 => B15 P x1 x2 v3 H4)))
theorem q16 (P : PT) : QB Tryz.prog T0 47 o16 (En 47 k6 (B15 P)) k8 (B16 P) := fun _ _ _ _  => by kernel_rfl
abbrev k9 : Sk := [(0,.g [.i,.v]),(1,.i .u64)]
noncomputable def o17 := ob Tryz.f80 [.l]
def B17 (P : PT) (x0a : Int) (x0b : Value) (x1 : Int) (H : AHeap) : Prop :=
  newK H [(Value.int .i64 x0a), x0b] 26 (fun b1 H2 => B16 P x1 b1 H2)
theorem q17 (P : PT) : QB Tryz.prog T0 47 o17 (En 47 k8 (B16 P)) k9 (B17 P) := fun _ _ _ _ _  => by kernel_rfl
noncomputable def code : Code := (.seq (.region 0 ⟨o17⟩ false) (.seq (.region 1 ⟨o16⟩ false) (.seq (.seq (.region 2 ⟨o15⟩ false) (.cond (.tmp 20) (.seq (.region 3 ⟨o14⟩ false) .ret) .skip)) (.seq (.region 4 ⟨o13⟩ false) (.seq (.seq (.region 5 ⟨o12⟩ false) (.block 0 (.loop (.seq (.region 6 ⟨o11⟩ false) (.seq (.cond (.tmp 27) .skip (.exit 0)) (.seq (.block 1 (.seq (.region 7 ⟨o10⟩ false) (.seq (.region 8 ⟨o9⟩ false) (.block 2 (.loop (.seq (.region 9 ⟨o8⟩ false) (.seq (.cond (.tmp 34) .skip (.exit 2)) (.seq (.block 3 (.seq (.region 10 ⟨o7⟩ false) (.region 11 ⟨o6⟩ false))) (.region 12 ⟨o5⟩ false))))))))) (.region 13 ⟨o3⟩ false))))))) (.seq (.region 14 ⟨o1⟩ false) .ret))))))
theorem body : Tryz.f80.body = some code := by kernel_rfl
theorem main (P : PT) : ∀ env H, (En 47 k9 (B17 P)) env H → AW Tryz.prog T0 code env H (mkQ (ret P) (fun _ _ _ => False) (ret P)) :=
  (r_seq (rB T0_ok (q17 P)) (r_seq (rB T0_ok (q16 P)) (r_seq (r_seq (rB T0_ok (q15 P)) (r_cond rfl (r_seq (rB T0_ok (q14 P)) r_ret) r_skip)) (r_seq (rB T0_ok (q13 P)) (r_seq (r_seq (rB T0_ok (q12 P)) (r_block (rL (l2 P) (fun N2 => (r_seq (rB T0_ok (q11 P N2)) (r_seq (r_cond rfl r_skip (r_exit (fun _ _ h => h))) (r_seq (r_block (r_seq (rB T0_ok (q10 P N2)) (r_seq (rB T0_ok (q9 P N2)) (r_block (rL (l4 P N2) (fun N4 => (r_seq (rB T0_ok (q8 P N2 N4)) (r_seq (r_cond rfl r_skip (r_exit (fun _ _ h => h))) (r_seq (r_block (r_seq (rB T0_ok (q7 P N2 N4)) (rB T0_ok (q6 P N2 N4)))) (rB T0_ok (q5 P N2 N4))))))))))) (rB T0_ok (q3 P N2))))))))) (r_seq (rB T0_ok (q1 P)) r_ret))))))
theorem ac (P : PT) (x0a : Int) (x0b : Value) (x1 : Int) (H : AHeap) (h : B17 P x0a x0b x1 H) : AC Tryz.prog T0 80 [(Value.agg ⟨[(Value.int .i64 x0a), x0b]⟩), (Value.int .u64 x1)] H P :=
  r_fn T0_ok (c := code) (n := 47) Tryz.func80 body (by kernel_rfl) (main P) (En_mk (x0a, x0b, x1, ()) (by kernel_rfl) ⟨by kernel_rfl, by kernel_rfl, trivial⟩ h)

end F80
-- (loop.example/g01329/impl.set).list
namespace F81
noncomputable def ret (P : PT) : EP := retE T0 19 Tryz.f81 P
abbrev k0 : Sk := [(3,.v)]
noncomputable def o1 := ob Tryz.f81 [.r,.r,.r,.l]
def B1 (P : PT) (x3 : Value) (H : AHeap) : Prop :=
  P x3 H
theorem q1 (P : PT) : QB Tryz.prog T0 19 o1 (ret P) k0 (B1 P) := fun _ _ _  => by kernel_rfl
abbrev k1 : Sk := [(0,.i .u64),(3,.v),(4,.i .i64)]
noncomputable def o3 := ob Tryz.f81 [.r,.r,.l,.r,.l,.l,.r,.r]
def B3 (P : PT) (N2 : NTy k1 Pr) (x0 : Int) (x3 : Value) (x4 : Int) (H : AHeap) : Prop :=
  N2 x0 x3 (IntKind.i64.wrap (x4 + 1)) H
theorem q3 (P : PT) (N2 : NTy k1 Pr) : QB Tryz.prog T0 19 o3 (En 19 k1 N2) k1 (B3 P N2) := fun _ _ _ _ _  => by kernel_rfl
noncomputable def o4 := ob Tryz.f81 [.r,.r,.l,.r,.l,.l,.r,.l,.l,.r,.l]
def B4 (P : PT) (N2 : NTy k1 Pr) (x0 : Int) (x3 : Value) (x4 : Int) (H : AHeap) : Prop :=
  newK H [(Value.int .i64 x4)] 2 (fun b1 H2 => apK T0 2 H2 x3 (Value.slice (some ⟨b1, 0, none⟩) 1 (1 + 1)) (fun v3 H4 => B3 P N2 x0 v3 x4 H4))
theorem q4 (P : PT) (N2 : NTy k1 Pr) : QB Tryz.prog T0 19 o4 (En 19 k1 (B3 P N2)) k1 (B4 P N2) := fun _ _ _ _ _  => by kernel_rfl
noncomputable def o5 := ob Tryz.f81 [.r,.r,.l,.r,.l,.l,.r,.l,.l,.l]
def B5 (P : PT) (N2 : NTy k1 Pr) (x0 : Int) (x3 : Value) (x4 : Int) (H : AHeap) : Prop :=
  AC Tryz.prog T0 134 [(Value.int .u64 x0), (Value.int .i64 x4)] H (fun v1 H2 => asB v1 (fun v3 => pif v3 (B4 P N2 x0 x3 x4 H2) (B3 P N2 x0 x3 x4 H2)))
theorem q5 (P : PT) (N2 : NTy k1 Pr) : QB Tryz.prog T0 19 o5 (cnd 13 (En 19 k1 (B4 P N2)) (En 19 k1 (B3 P N2))) k1 (B5 P N2) := fun _ _ _ _ _  => by kernel_rfl
noncomputable def o6 := ob Tryz.f81 [.r,.r,.l,.r,.l,.l,.l,.l]
def B6 (P : PT) (N2 : NTy k1 Pr) (x0 : Int) (x3 : Value) (x4 : Int) (H : AHeap) : Prop :=
  ((0 : Int) ≤ x4) ∧ (pif ((Int.fdiv x0 (2 ^ (min (Int.toNat x4) 64)) : Int) != 0) (B5 P N2 x0 x3 x4 H) (B1 P x3 H))
theorem q6 (P : PT) (N2 : NTy k1 Pr) : QB Tryz.prog T0 19 o6 (cnd 8 (En 19 k1 (B5 P N2)) (En 19 k0 (B1 P))) k1 (B6 P N2) := fun _ _ _ _ _  => by kernel_rfl
def L2 (P : PT) (x0 : Int) (x3 : Value) (x4 : Int) (H : AHeap) : Prop :=
  ∃ (I : NTy k1 Pr) (μ : NTy k1 (AHeap → Nat)), I x0 x3 x4 H ∧ ∀ y0 y3 y4 G, I y0 y3 y4 G → B6 P (fun z0 z3 z4 G' => I z0 z3 z4 G' ∧ μ z0 z3 z4 G' < μ y0 y3 y4 G) y0 y3 y4 G
theorem l2 (P : PT) : LQ k1 (L2 P) (B6 P) := fun ⟨_,_,_,_⟩ _ ⟨I, μ, h0, hI⟩ => ⟨apT _ I, apT _ μ, h0, fun ⟨_,_,_,_⟩ _ h => hI _ _ _ _  h⟩
abbrev k2 : Sk := [(0,.i .u64),(3,.v)]
noncomputable def o7 := ob Tryz.f81 [.r,.r,.l,.l]
def B7 (P : PT) (x0 : Int) (x3 : Value) (H : AHeap) : Prop :=
  L2 P x0 x3 0 H
theorem q7 (P : PT) : QB Tryz.prog T0 19 o7 (En 19 k1 (L2 P)) k2 (B7 P) := fun _ _ _ _  => by kernel_rfl
abbrev k3 : Sk := [(0,.i .u64)]
noncomputable def o8 := ob Tryz.f81 [.r,.l]
def B8 (P : PT) (x0 : Int) (H : AHeap) : Prop :=
  B7 P x0 (Value.slice none 0 0) H
theorem q8 (P : PT) : QB Tryz.prog T0 19 o8 (En 19 k2 (B7 P)) k3 (B8 P) := fun _ _ _  => by kernel_rfl
noncomputable def o9 := ob Tryz.f81 [.l]
def B9 (P : PT) (x0 : Int) (H : AHeap) : Prop :=
  B8 P x0 H
theorem q9 (P : PT) : QB Tryz.prog T0 19 o9 (En 19 k3 (B8 P)) k3 (B9 P) := fun _ _ _  => by kernel_rfl
noncomputable def code : Code := (.seq (.region 0 ⟨o9⟩ false) (.seq (.region 1 ⟨o8⟩ false) (.seq (.seq (.region 2 ⟨o7⟩ false) (.block 0 (.loop (.seq (.seq (.region 3 ⟨o6⟩ false) (.cond (.tmp 8) .skip (.exit 0))) (.seq (.block 1 (.seq (.region 5 ⟨o5⟩ false) (.cond (.tmp 13) (.region 6 ⟨o4⟩ false) .skip))) (.region 4 ⟨o3⟩ false)))))) (.seq (.region 7 ⟨o1⟩ false) .ret))))
theorem body : Tryz.f81.body = some code := by kernel_rfl
theorem main (P : PT) : ∀ env H, (En 19 k3 (B9 P)) env H → AW Tryz.prog T0 code env H (mkQ (ret P) (fun _ _ _ => False) (ret P)) :=
  (r_seq (rB T0_ok (q9 P)) (r_seq (rB T0_ok (q8 P)) (r_seq (r_seq (rB T0_ok (q7 P)) (r_block (rL (l2 P) (fun N2 => (r_seq (r_seq (rB T0_ok (q6 P N2)) (r_cond rfl r_skip (r_exit (fun _ _ h => h)))) (r_seq (r_block (r_seq (rB T0_ok (q5 P N2)) (r_cond rfl (rB T0_ok (q4 P N2)) r_skip))) (rB T0_ok (q3 P N2)))))))) (r_seq (rB T0_ok (q1 P)) r_ret))))
theorem ac (P : PT) (x0 : Int) (H : AHeap) (h : B9 P x0 H) : AC Tryz.prog T0 81 [(Value.int .u64 x0)] H P :=
  r_fn T0_ok (c := code) (n := 19) Tryz.func81 body (by kernel_rfl) (main P) (En_mk (x0, ()) (by kernel_rfl) ⟨by kernel_rfl, trivial⟩ h)

end F81
-- loop.example/g01329/spec.l01Small
namespace F82
noncomputable def ret (P : PT) : EP := retE T0 32 Tryz.f82 P
abbrev k0 : Sk := [(0,.v),(2,.x)]
noncomputable def o1 := ob Tryz.f82 [.r,.r,.l]
def B1 (P : PT) (x0 : Value) (x2 : Nat) (H : AHeap) : Prop :=
  newK H [(Value.int .i64 2), (Value.int .i64 4), (Value.int .i64 4), (Value.int .i64 6), (Value.int .i64 6), (Value.int .i64 8), (Value.int .i64 8), (Value.int .i64 10)] 2 (fun b1 H2 => AC Tryz.prog T0 83 [x0, (Value.slice (some ⟨b1, 0, none⟩) 8 (8 + 1))] H2 (fun v3 H4 => asI .i64 v3 (fun v5 => AC Tryz.prog T0 150 [x0, (Value.int .i64 v5)] H4 (fun v6 H7 => agg2 v6 (fun v8 v9 => asI .i64 v8 (fun v10 => stK H7 x2 0 [(Value.int .i64 v10), v9] (fun H12 => ldI .i64 H12 x2 0 (fun v13 => ld1 H12 x2 1 (fun v14 => P (Value.agg ⟨[(Value.int .i64 v13), v14]⟩) H12)))))))))
theorem q1 (P : PT) : QB Tryz.prog T0 32 o1 (ret P) k0 (B1 P) := fun _ _ _ _  => by kernel_rfl
abbrev k1 : Sk := [(0,.v),(2,.x),(4,.x)]
noncomputable def o2 := ob Tryz.f82 [.r,.l,.r,.l,.r,.r,.l]
def B2 (P : PT) (x0 : Value) (x2 x4 : Nat) (H : AHeap) : Prop :=
  ldI .i64 H x4 0 (fun v1 => ld1 H x4 1 (fun v2 => ldI .i64 H x4 0 (fun v3 => AC Tryz.prog T0 70 [x0, (Value.int .i64 v3)] H (fun v4 H5 => (ldI .i64 H5 x4 0 (fun v7 => ld1 H5 x4 1 (fun v8 => ((Value.agg ⟨[(Value.int .i64 v7), v8]⟩) = (Value.agg ⟨[(Value.int .i64 v1), v2]⟩)) ∧ (H5 = H5)))) ∧ (AC Tryz.prog T0 69 [(Value.agg ⟨[(Value.int .i64 v1), v2]⟩), v4] H5 (fun v9 H10 => agg2 v9 (fun v11 v12 => asI .i64 v11 (fun v13 => stK H10 x2 0 [(Value.int .i64 v13), v12] (fun H15 => ldI .i64 H15 x2 0 (fun v16 => ld1 H15 x2 1 (fun v17 => P (Value.agg ⟨[(Value.int .i64 v16), v17]⟩) H15)))))))))))
theorem q2 (P : PT) : QT Tryz.prog T0 32 o2 (.op 0 [] (.op 1 [] (.op 2 [] (.op 3 [] (.op 4 [0] (.op 5 [] (.op 6 [] .done))))))) (ret P) k1 (B2 P) := fun _ _ _ _ _  => by kernel_rfl
abbrev k2 : Sk := [(0,.v),(2,.x),(3,.v)]
noncomputable def o3 := ob Tryz.f82 [.r,.l,.r,.l,.r,.l]
def B3 (P : PT) (x0 : Value) (x2 : Nat) (x3 : Value) (H : AHeap) : Prop :=
  lenK x3 (fun n1 => AC Tryz.prog T0 66 [x0, (Value.int .i64 (n1 : Int))] H (fun v2 H3 => asI .i64 v2 (fun v4 => idxK x3 v4 1 (fun b5 o6 => ld1 H3 b5 o6 (fun v8 => asS v8 (fun v7 => AC Tryz.prog T0 67 [(Value.string v7)] H3 (fun v9 H10 => tup2 v9 (fun v11 v12 => agg2 v11 (fun v13 v14 => asI .i64 v13 (fun v15 => asB v12 (fun v17 => newK H10 [(Value.int .i64 0), (Value.slice none 0 0)] 26 (fun b18 H19 => stK H19 b18 0 [(Value.int .i64 v15), v14] (fun H20 => B2 P x0 x2 b18 H20)))))))))))))
theorem q3 (P : PT) : QB Tryz.prog T0 32 o3 (En 32 k1 (B2 P)) k2 (B3 P) := fun _ _ _ _ _  => by kernel_rfl
noncomputable def o4 := ob Tryz.f82 [.r,.l,.r,.l,.l]
def B4 (P : PT) (x0 : Value) (x2 : Nat) (H : AHeap) : Prop :=
  newK H [(Value.string (⟨#[116, 104, 101, 116, 97]⟩)), (Value.string (⟨#[107, 52]⟩)), (Value.string (⟨#[107, 51, 51]⟩)), (Value.string (⟨#[112, 114, 105, 115, 109]⟩)), (Value.string (⟨#[99, 117, 98, 101]⟩)), (Value.string (⟨#[112, 101, 116, 101, 114, 115, 101, 110]⟩))] 9 (fun b1 H2 => B3 P x0 x2 (Value.slice (some ⟨b1, 0, none⟩) 6 (6 + 1)) H2)
theorem q4 (P : PT) : QB Tryz.prog T0 32 o4 (En 32 k2 (B3 P)) k0 (B4 P) := fun _ _ _ _  => by kernel_rfl
noncomputable def o5 := ob Tryz.f82 [.r,.l,.l]
def B5 (P : PT) (x0 : Value) (x2 : Nat) (H : AHeap) : Prop :=
  AC Tryz.prog T0 66 [x0, (Value.int .i64 4)] H (fun v1 H2 => asI .i64 v1 (fun v3 => pif ((v3 : Int) == 0) (B4 P x0 x2 H2) (B1 P x0 x2 H2)))
theorem q5 (P : PT) : QB Tryz.prog T0 32 o5 (cnd 8 (En 32 k0 (B4 P)) (En 32 k0 (B1 P))) k0 (B5 P) := fun _ _ _ _  => by kernel_rfl
abbrev k3 : Sk := [(0,.v)]
noncomputable def o6 := ob Tryz.f82 [.l]
def B6 (P : PT) (x0 : Value) (H : AHeap) : Prop :=
  newK H [(Value.int .i64 0), (Value.slice none 0 0)] 26 (fun b1 H2 => B5 P x0 b1 H2)
theorem q6 (P : PT) : QB Tryz.prog T0 32 o6 (En 32 k0 (B5 P)) k3 (B6 P) := fun _ _ _  => by kernel_rfl
noncomputable def code : Code := (.seq (.region 0 ⟨o6⟩ false) (.seq (.seq (.region 1 ⟨o5⟩ false) (.cond (.tmp 8) (.seq (.region 2 ⟨o4⟩ false) (.seq (.region 3 ⟨o3⟩ false) (.seq (.region 4 ⟨o2⟩ true) .ret))) .skip)) (.seq (.region 5 ⟨o1⟩ false) .ret)))
theorem body : Tryz.f82.body = some code := by kernel_rfl
theorem main (P : PT) : ∀ env H, (En 32 k3 (B6 P)) env H → AW Tryz.prog T0 code env H (mkQ (ret P) (fun _ _ _ => False) (ret P)) :=
  (r_seq (rB T0_ok (q6 P)) (r_seq (r_seq (rB T0_ok (q5 P)) (r_cond rfl (r_seq (rB T0_ok (q4 P)) (r_seq (rB T0_ok (q3 P)) (r_seq (rT T0_ok mixed (.op 0 [] (.op 1 [] (.op 2 [] (.op 3 [] (.op 4 [0] (.op 5 [] (.op 6 [] .done))))))) (by kernel_rfl) (q2 P)) r_ret))) r_skip)) (r_seq (rB T0_ok (q1 P)) r_ret)))
theorem ac (P : PT) (x0 : Value) (H : AHeap) (h : B6 P x0 H) : AC Tryz.prog T0 82 [x0] H P :=
  r_fn T0_ok (c := code) (n := 32) Tryz.func82 body (by kernel_rfl) (main P) (En_mk (x0, ()) (by kernel_rfl) ⟨by kernel_rfl, trivial⟩ h)

end F82
-- loop.example/g01329/spec.l01Pick
namespace F83
noncomputable def ret (P : PT) : EP := retE T0 12 Tryz.f83 P
abbrev k0 : Sk := [(0,.v),(1,.v)]
noncomputable def o1 := ob Tryz.f83 [.r,.l]
def B1 (P : PT) (x0 x1 : Value) (H : AHeap) : Prop :=
  lenK x1 (fun n1 => AC Tryz.prog T0 66 [x0, (Value.int .i64 (n1 : Int))] H (fun v2 H3 => asI .i64 v2 (fun v4 => idxK x1 v4 1 (fun b5 o6 => ldI .i64 H3 b5 o6 (fun v7 => P (Value.int .i64 v7) H3)))))
theorem q1 (P : PT) : QB Tryz.prog T0 12 o1 (ret P) k0 (B1 P) := fun _ _ _ _  => by kernel_rfl
noncomputable def o2 := ob Tryz.f83 [.l]
def B2 (P : PT) (x0 x1 : Value) (H : AHeap) : Prop :=
  B1 P x0 x1 H
theorem q2 (P : PT) : QB Tryz.prog T0 12 o2 (En 12 k0 (B1 P)) k0 (B2 P) := fun _ _ _ _  => by kernel_rfl
noncomputable def code : Code := (.seq (.region 0 ⟨o2⟩ false) (.seq (.region 1 ⟨o1⟩ false) .ret))
theorem body : Tryz.f83.body = some code := by kernel_rfl
theorem main (P : PT) : ∀ env H, (En 12 k0 (B2 P)) env H → AW Tryz.prog T0 code env H (mkQ (ret P) (fun _ _ _ => False) (ret P)) :=
  (r_seq (rB T0_ok (q2 P)) (r_seq (rB T0_ok (q1 P)) r_ret))
theorem ac (P : PT) (x0 x1 : Value) (H : AHeap) (h : B2 P x0 x1 H) : AC Tryz.prog T0 83 [x0, x1] H P :=
  r_fn T0_ok (c := code) (n := 12) Tryz.func83 body (by kernel_rfl) (main P) (En_mk (x0, x1, ()) (by kernel_rfl) ⟨by kernel_rfl, by kernel_rfl, trivial⟩ h)

end F83
-- loop.example/g01329/spec.l01In
namespace F85
noncomputable def ret (P : PT) : EP := retE T0 15 Tryz.f85 P
abbrev k0 : Sk := [(0,.i .i64),(1,.i .i64),(2,.i .i64)]
noncomputable def o1 := ob Tryz.f85 [.r,.l]
def B1 (P : PT) (x0 x1 x2 : Int) (H : AHeap) : Prop :=
  pif (decide ((x0 : Int) ≥ x1)) (P (Value.bool (decide ((x0 : Int) ≤ x2))) H) (P (Value.bool false) H)
theorem q1 (P : PT) : QB Tryz.prog T0 15 o1 (ret P) k0 (B1 P) := fun _ _ _ _ _  => by kernel_rfl
noncomputable def o2 := ob Tryz.f85 [.l]
def B2 (P : PT) (x0 x1 x2 : Int) (H : AHeap) : Prop :=
  B1 P x0 x1 x2 H
theorem q2 (P : PT) : QB Tryz.prog T0 15 o2 (En 15 k0 (B1 P)) k0 (B2 P) := fun _ _ _ _ _  => by kernel_rfl
noncomputable def code : Code := (.seq (.region 0 ⟨o2⟩ false) (.seq (.region 1 ⟨o1⟩ false) .ret))
theorem body : Tryz.f85.body = some code := by kernel_rfl
theorem main (P : PT) : ∀ env H, (En 15 k0 (B2 P)) env H → AW Tryz.prog T0 code env H (mkQ (ret P) (fun _ _ _ => False) (ret P)) :=
  (r_seq (rB T0_ok (q2 P)) (r_seq (rB T0_ok (q1 P)) r_ret))
theorem ac (P : PT) (x0 x1 x2 : Int) (H : AHeap) (h : B2 P x0 x1 x2 H) : AC Tryz.prog T0 85 [(Value.int .i64 x0), (Value.int .i64 x1), (Value.int .i64 x2)] H P :=
  r_fn T0_ok (c := code) (n := 15) Tryz.func85 body (by kernel_rfl) (main P) (En_mk (x0, x1, x2, ()) (by kernel_rfl) ⟨by kernel_rfl, by kernel_rfl, by kernel_rfl, trivial⟩ h)

end F85
-- loop.example/g01329/spec.l03Bond
namespace F87
noncomputable def ret (P : PT) : EP := retE T0 63 Tryz.f87 P
abbrev k0 : Sk := [(2,.x),(6,.i .i64)]
noncomputable def o1 := ob Tryz.f87 [.r,.r,.r,.r,.l]
def B1 (P : PT) (x2 : Nat) (x6 : Int) (H : AHeap) : Prop :=
  ldI .i64 H x2 0 (fun v1 => ld1 H x2 1 (fun v2 => AC Tryz.prog T0 92 [(Value.int .i64 v1), v2] H (fun v3 H4 => asI .i64 v3 (fun v5 => P (Value.bool ((x6 : Int) == (IntKind.i64.wrap (v5 + 1)))) H4))))
theorem q1 (P : PT) : QB Tryz.prog T0 63 o1 (ret P) k0 (B1 P) := fun _ _ _ _  => by kernel_rfl
abbrev k1 : Sk := [(1,.v),(2,.x),(5,.v),(6,.i .i64),(8,.i .i64)]
noncomputable def o3 := ob Tryz.f87 [.r,.r,.r,.l,.r,.l,.l,.r,.r]
def B3 (P : PT) (N2 : NTy k1 Pr) (x1 : Value) (x2 : Nat) (x5 : Value) (x6 x8 : Int) (H : AHeap) : Prop :=
  N2 x1 x2 x5 x6 (IntKind.i64.wrap (x8 + 1)) H
theorem q3 (P : PT) (N2 : NTy k1 Pr) : QB Tryz.prog T0 63 o3 (En 63 k1 N2) k1 (B3 P N2) := fun _ _ _ _ _ _ _  => by kernel_rfl
abbrev k2 : Sk := []
noncomputable def o4 := ob Tryz.f87 [.r,.r,.r,.l,.r,.l,.l,.r,.l,.l,.r,.r,.l,.l]
def B4 (P : PT) (N2 : NTy k1 Pr) (H : AHeap) : Prop :=
  P (Value.bool false) H
theorem q4 (P : PT) (N2 : NTy k1 Pr) : QB Tryz.prog T0 63 o4 (ret P) k2 (B4 P N2) := fun _ _  => by kernel_rfl
abbrev k3 : Sk := [(1,.v),(2,.x),(5,.v),(6,.i .i64),(8,.i .i64),(9,.x)]
noncomputable def o5 := ob Tryz.f87 [.r,.r,.r,.l,.r,.l,.l,.r,.l,.l,.r,.l]
def B5 (P : PT) (N2 : NTy k1 Pr) (x1 : Value) (x2 : Nat) (x5 : Value) (x6 x8 : Int) (x9 : Nat) (H : AHeap) : Prop :=
  ldI .i64 H x9 0 (fun v1 => idxK x5 v1 1 (fun b2 o3 => ldI .i64 H b2 o3 (fun v4 => ldI .i64 H x9 1 (fun v5 => idxK x5 v5 1 (fun b6 o7 => ldI .i64 H b6 o7 (fun v8 => pif ((v4 : Int) == v8) (B4 P N2 H) (B3 P N2 x1 x2 x5 x6 x8 H)))))))
theorem q5 (P : PT) (N2 : NTy k1 Pr) : QD Tryz.prog T0 63 o5 [(0, false), (1, false), (2, false), (3, false), (4, false), (5, false), (6, false), (7, false), (8, false), (9, false), (10, false)] (cnd 54 (En 63 k2 (B4 P N2)) (En 63 k1 (B3 P N2))) k3 (B5 P N2) := fun _ _ _ _ _ _ _ _  => by kernel_rfl
noncomputable def o6 := ob Tryz.f87 [.r,.r,.r,.l,.r,.l,.l,.r,.l,.l,.l]
def B6 (P : PT) (N2 : NTy k1 Pr) (x1 : Value) (x2 : Nat) (x5 : Value) (x6 x8 : Int) (H : AHeap) : Prop :=
  ld1 H x2 1 (fun v1 => idxK x1 x8 1 (fun b2 o3 => ldI .i64 H b2 o3 (fun v4 => idxK v1 v4 2 (fun b5 o6 => ldI .i64 H b5 o6 (fun v7 => ldI .i64 H b5 (o6 + 1) (fun v8 => newK H [(Value.int .i64 0), (Value.int .i64 0)] 78 (fun b9 H10 => stK H10 b9 0 [(Value.int .i64 v7), (Value.int .i64 v8)] (fun H11 => B5 P N2 x1 x2 x5 x6 x8 b9 H11))))))))
theorem q6 (P : PT) (N2 : NTy k1 Pr) : QD Tryz.prog T0 63 o6 [(0, false), (1, false), (2, false), (3, false), (4, false), (5, false), (6, false), (7, false), (8, false), (9, false)] (En 63 k3 (B5 P N2)) k1 (B6 P N2) := fun _ _ _ _ _ _ _  => by kernel_rfl
noncomputable def o7 := ob Tryz.f87 [.r,.r,.r,.l,.r,.l,.l,.l,.l]
def B7 (P : PT) (N2 : NTy k1 Pr) (x1 : Value) (x2 : Nat) (x5 : Value) (x6 x8 : Int) (H : AHeap) : Prop :=
  lenK x1 (fun n1 => pif (decide ((x8 : Int) < (n1 : Int))) (B6 P N2 x1 x2 x5 x6 x8 H) (B1 P x2 x6 H))
theorem q7 (P : PT) (N2 : NTy k1 Pr) : QB Tryz.prog T0 63 o7 (cnd 33 (En 63 k1 (B6 P N2)) (En 63 k0 (B1 P))) k1 (B7 P N2) := fun _ _ _ _ _ _ _  => by kernel_rfl
def L2 (P : PT) (x1 : Value) (x2 : Nat) (x5 : Value) (x6 x8 : Int) (H : AHeap) : Prop :=
  ∃ (I : NTy k1 Pr) (μ : NTy k1 (AHeap → Nat)), I x1 x2 x5 x6 x8 H ∧ ∀ y1 y2 y5 y6 y8 G, I y1 y2 y5 y6 y8 G → B7 P (fun z1 z2 z5 z6 z8 G' => I z1 z2 z5 z6 z8 G' ∧ μ z1 z2 z5 z6 z8 G' < μ y1 y2 y5 y6 y8 G) y1 y2 y5 y6 y8 G
theorem l2 (P : PT) : LQ k1 (L2 P) (B7 P) := fun ⟨_,_,_,_,_,_⟩ _ ⟨I, μ, h0, hI⟩ => ⟨apT _ I, apT _ μ, h0, fun ⟨_,_,_,_,_,_⟩ _ h => hI _ _ _ _ _ _  h⟩
abbrev k4 : Sk := [(1,.v),(2,.x),(5,.v),(6,.i .i64)]
noncomputable def o8 := ob Tryz.f87 [.r,.r,.r,.l,.l]
def B8 (P : PT) (x1 : Value) (x2 : Nat) (x5 : Value) (x6 : Int) (H : AHeap) : Prop :=
  L2 P x1 x2 x5 x6 0 H
theorem q8 (P : PT) : QB Tryz.prog T0 63 o8 (En 63 k1 (L2 P)) k4 (B8 P) := fun _ _ _ _ _ _  => by kernel_rfl
abbrev k5 : Sk := [(1,.v),(2,.x),(5,.v),(6,.i .i64),(7,.i .i64)]
noncomputable def o10 := ob Tryz.f87 [.r,.r,.l,.r,.l,.l,.r,.r]
def B10 (P : PT) (N9 : NTy k5 Pr) (x1 : Value) (x2 : Nat) (x5 : Value) (x6 x7 : Int) (H : AHeap) : Prop :=
  N9 x1 x2 x5 x6 (IntKind.i64.wrap (x7 + 1)) H
theorem q10 (P : PT) (N9 : NTy k5 Pr) : QB Tryz.prog T0 63 o10 (En 63 k5 N9) k5 (B10 P N9) := fun _ _ _ _ _ _ _  => by kernel_rfl
noncomputable def o11 := ob Tryz.f87 [.r,.r,.l,.r,.l,.l,.r,.l,.l,.r,.l]
def B11 (P : PT) (N9 : NTy k5 Pr) (x1 : Value) (x2 : Nat) (x5 : Value) (x6 x7 : Int) (H : AHeap) : Prop :=
  B10 P N9 x1 x2 x5 (IntKind.i64.wrap (x6 + 1)) x7 H
theorem q11 (P : PT) (N9 : NTy k5 Pr) : QB Tryz.prog T0 63 o11 (En 63 k5 (B10 P N9)) k5 (B11 P N9) := fun _ _ _ _ _ _ _  => by kernel_rfl
noncomputable def o12 := ob Tryz.f87 [.r,.r,.l,.r,.l,.l,.r,.l,.l,.l]
def B12 (P : PT) (N9 : NTy k5 Pr) (x1 : Value) (x2 : Nat) (x5 : Value) (x6 x7 : Int) (H : AHeap) : Prop :=
  idxK x5 x7 1 (fun b1 o2 => ldI .i64 H b1 o2 (fun v3 => pif ((v3 : Int) == x7) (B11 P N9 x1 x2 x5 x6 x7 H) (B10 P N9 x1 x2 x5 x6 x7 H)))
theorem q12 (P : PT) (N9 : NTy k5 Pr) : QB Tryz.prog T0 63 o12 (cnd 27 (En 63 k5 (B11 P N9)) (En 63 k5 (B10 P N9))) k5 (B12 P N9) := fun _ _ _ _ _ _ _  => by kernel_rfl
noncomputable def o13 := ob Tryz.f87 [.r,.r,.l,.r,.l,.l,.l,.l]
def B13 (P : PT) (N9 : NTy k5 Pr) (x1 : Value) (x2 : Nat) (x5 : Value) (x6 x7 : Int) (H : AHeap) : Prop :=
  ldI .i64 H x2 0 (fun v1 => pif (decide ((x7 : Int) < v1)) (B12 P N9 x1 x2 x5 x6 x7 H) (B8 P x1 x2 x5 x6 H))
theorem q13 (P : PT) (N9 : NTy k5 Pr) : QB Tryz.prog T0 63 o13 (cnd 19 (En 63 k5 (B12 P N9)) (En 63 k4 (B8 P))) k5 (B13 P N9) := fun _ _ _ _ _ _ _  => by kernel_rfl
def L9 (P : PT) (x1 : Value) (x2 : Nat) (x5 : Value) (x6 x7 : Int) (H : AHeap) : Prop :=
  ∃ (I : NTy k5 Pr) (μ : NTy k5 (AHeap → Nat)), I x1 x2 x5 x6 x7 H ∧ ∀ y1 y2 y5 y6 y7 G, I y1 y2 y5 y6 y7 G → B13 P (fun z1 z2 z5 z6 z7 G' => I z1 z2 z5 z6 z7 G' ∧ μ z1 z2 z5 z6 z7 G' < μ y1 y2 y5 y6 y7 G) y1 y2 y5 y6 y7 G
theorem l9 (P : PT) : LQ k5 (L9 P) (B13 P) := fun ⟨_,_,_,_,_,_⟩ _ ⟨I, μ, h0, hI⟩ => ⟨apT _ I, apT _ μ, h0, fun ⟨_,_,_,_,_,_⟩ _ h => hI _ _ _ _ _ _  h⟩
noncomputable def o14 := ob Tryz.f87 [.r,.r,.l,.l]
def B14 (P : PT) (x1 : Value) (x2 : Nat) (x5 : Value) (x6 : Int) (H : AHeap) : Prop :=
  L9 P x1 x2 x5 x6 0 H
theorem q14 (P : PT) : QB Tryz.prog T0 63 o14 (En 63 k5 (L9 P)) k4 (B14 P) := fun _ _ _ _ _ _  => by kernel_rfl
abbrev k6 : Sk := [(1,.v),(2,.x)]
noncomputable def o15 := ob Tryz.f87 [.r,.l]
def B15 (P : PT) (x1 : Value) (x2 : Nat) (H : AHeap) : Prop :=
  ldI .i64 H x2 0 (fun v1 => ldI .i64 H x2 0 (fun v2 => ld1 H x2 1 (fun v3 => AC Tryz.prog T0 93 [(Value.agg ⟨[(Value.int .i64 v2), v3]⟩), x1] H (fun v4 H5 => (AHeap.le H H5) ∧ (AC Tryz.prog T0 105 [(Value.int .i64 v1), v4] H5 (fun v7 H8 => B14 P x1 x2 v7 0 H8))))))
theorem q15 (P : PT) : QD Tryz.prog T0 63 o15 [(0, false), (1, false), (2, false), (3, false), (4, true), (5, false), (6, false), (7, false)] (En 63 k4 (B14 P)) k6 (B15 P) := fun _ _ _ _  => by kernel_rfl
abbrev k7 : Sk := [(0,.g [.i,.v]),(1,.v)]
noncomputable def o16 := ob Tryz.f87 [.l]
def B16 (P : PT) (x0a : Int) (x0b x1 : Value) (H : AHeap) : Prop :=
  newK H [(Value.int .i64 x0a), x0b] 26 (fun b1 H2 => B15 P x1 b1 H2)
theorem q16 (P : PT) : QB Tryz.prog T0 63 o16 (En 63 k6 (B15 P)) k7 (B16 P) := fun _ _ _ _ _  => by kernel_rfl
noncomputable def code : Code := (.seq (.region 0 ⟨o16⟩ false) (.seq (.region 1 ⟨o15⟩ true) (.seq (.seq (.region 2 ⟨o14⟩ false) (.block 0 (.loop (.seq (.seq (.region 3 ⟨o13⟩ false) (.cond (.tmp 19) .skip (.exit 0))) (.seq (.block 1 (.seq (.region 5 ⟨o12⟩ false) (.cond (.tmp 27) (.region 6 ⟨o11⟩ false) .skip))) (.region 4 ⟨o10⟩ false)))))) (.seq (.seq (.region 7 ⟨o8⟩ false) (.block 2 (.loop (.seq (.seq (.region 8 ⟨o7⟩ false) (.cond (.tmp 33) .skip (.exit 2))) (.seq (.block 3 (.seq (.region 10 ⟨o6⟩ true) (.seq (.region 11 ⟨o5⟩ true) (.cond (.tmp 54) (.seq (.region 12 ⟨o4⟩ false) .ret) .skip)))) (.region 9 ⟨o3⟩ false)))))) (.seq (.region 13 ⟨o1⟩ false) .ret)))))
theorem body : Tryz.f87.body = some code := by kernel_rfl
theorem main (P : PT) : ∀ env H, (En 63 k7 (B16 P)) env H → AW Tryz.prog T0 code env H (mkQ (ret P) (fun _ _ _ => False) (ret P)) :=
  (r_seq (rB T0_ok (q16 P)) (r_seq (rD T0_ok mixed [(0, false), (1, false), (2, false), (3, false), (4, true), (5, false), (6, false), (7, false)] (by kernel_rfl) (q15 P)) (r_seq (r_seq (rB T0_ok (q14 P)) (r_block (rL (l9 P) (fun N9 => (r_seq (r_seq (rB T0_ok (q13 P N9)) (r_cond rfl r_skip (r_exit (fun _ _ h => h)))) (r_seq (r_block (r_seq (rB T0_ok (q12 P N9)) (r_cond rfl (rB T0_ok (q11 P N9)) r_skip))) (rB T0_ok (q10 P N9)))))))) (r_seq (r_seq (rB T0_ok (q8 P)) (r_block (rL (l2 P) (fun N2 => (r_seq (r_seq (rB T0_ok (q7 P N2)) (r_cond rfl r_skip (r_exit (fun _ _ h => h)))) (r_seq (r_block (r_seq (rD T0_ok mixed [(0, false), (1, false), (2, false), (3, false), (4, false), (5, false), (6, false), (7, false), (8, false), (9, false)] (by kernel_rfl) (q6 P N2)) (r_seq (rD T0_ok mixed [(0, false), (1, false), (2, false), (3, false), (4, false), (5, false), (6, false), (7, false), (8, false), (9, false), (10, false)] (by kernel_rfl) (q5 P N2)) (r_cond rfl (r_seq (rB T0_ok (q4 P N2)) r_ret) r_skip)))) (rB T0_ok (q3 P N2)))))))) (r_seq (rB T0_ok (q1 P)) r_ret)))))
theorem ac (P : PT) (x0a : Int) (x0b x1 : Value) (H : AHeap) (h : B16 P x0a x0b x1 H) : AC Tryz.prog T0 87 [(Value.agg ⟨[(Value.int .i64 x0a), x0b]⟩), x1] H P :=
  r_fn T0_ok (c := code) (n := 63) Tryz.func87 body (by kernel_rfl) (main P) (En_mk (x0a, x0b, x1, ()) (by kernel_rfl) ⟨by kernel_rfl, by kernel_rfl, trivial⟩ h)

end F87
-- loop.example/g01329/impl.edgesCode
namespace F88
noncomputable def ret (P : PT) : EP := retE T0 12 Tryz.f88 P
abbrev k0 : Sk := [(1,.v),(2,.x)]
noncomputable def o1 := ob Tryz.f88 [.r,.l]
def B1 (P : PT) (x1 : Value) (x2 : Nat) (H : AHeap) : Prop :=
  ldI .i64 H x2 0 (fun v1 => ld1 H x2 1 (fun v2 => ld1 H x2 1 (fun v3 => AC Tryz.prog T0 73 [v3] H (fun v4 H5 => asI .i64 v4 (fun v6 => (AHeap.le H H5) ∧ (AC Tryz.prog T0 98 [x1, (Value.int .i64 v6)] H5 (fun v7 H8 => asB v7 (fun v9 => (AHeap.le H5 H8) ∧ (AC Tryz.prog T0 72 [(Value.agg ⟨[(Value.int .i64 v1), v2]⟩), (Value.bool v9)] H8 (fun v10 H11 => asI .i64 v10 (fun v12 => P (Value.int .i64 v12) H11)))))))))))
theorem q1 (P : PT) : QD Tryz.prog T0 12 o1 [(0, false), (1, false), (2, false), (3, false), (4, true), (5, true), (6, false), (7, false)] (ret P) k0 (B1 P) := fun _ _ _ _  => by kernel_rfl
abbrev k1 : Sk := [(0,.g [.i,.v]),(1,.v)]
noncomputable def o2 := ob Tryz.f88 [.l]
def B2 (P : PT) (x0a : Int) (x0b x1 : Value) (H : AHeap) : Prop :=
  newK H [(Value.int .i64 x0a), x0b] 26 (fun b1 H2 => B1 P x1 b1 H2)
theorem q2 (P : PT) : QB Tryz.prog T0 12 o2 (En 12 k0 (B1 P)) k1 (B2 P) := fun _ _ _ _ _  => by kernel_rfl
noncomputable def code : Code := (.seq (.region 0 ⟨o2⟩ false) (.seq (.region 1 ⟨o1⟩ true) .ret))
theorem body : Tryz.f88.body = some code := by kernel_rfl
theorem main (P : PT) : ∀ env H, (En 12 k1 (B2 P)) env H → AW Tryz.prog T0 code env H (mkQ (ret P) (fun _ _ _ => False) (ret P)) :=
  (r_seq (rB T0_ok (q2 P)) (r_seq (rD T0_ok mixed [(0, false), (1, false), (2, false), (3, false), (4, true), (5, true), (6, false), (7, false)] (by kernel_rfl) (q1 P)) r_ret))
theorem ac (P : PT) (x0a : Int) (x0b x1 : Value) (H : AHeap) (h : B2 P x0a x0b x1 H) : AC Tryz.prog T0 88 [(Value.agg ⟨[(Value.int .i64 x0a), x0b]⟩), x1] H P :=
  r_fn T0_ok (c := code) (n := 12) Tryz.func88 body (by kernel_rfl) (main P) (En_mk (x0a, x0b, x1, ()) (by kernel_rfl) ⟨by kernel_rfl, by kernel_rfl, trivial⟩ h)

end F88
-- loop.example/g01329/impl.setOf
namespace F89
noncomputable def ret (P : PT) : EP := retE T0 18 Tryz.f89 P
abbrev k0 : Sk := [(3,.i .u64)]
noncomputable def o1 := ob Tryz.f89 [.r,.r,.r,.l]
def B1 (P : PT) (x3 : Int) (H : AHeap) : Prop :=
  P (Value.int .u64 x3) H
theorem q1 (P : PT) : QB Tryz.prog T0 18 o1 (ret P) k0 (B1 P) := fun _ _ _  => by kernel_rfl
abbrev k1 : Sk := [(3,.i .u64),(6,.v),(7,.i .i64),(8,.i .i64)]
noncomputable def o3 := ob Tryz.f89 [.r,.r,.l,.r,.l,.l,.r,.r,.r]
def B3 (P : PT) (N2 : NTy k1 Pr) (x3 : Int) (x6 : Value) (x7 x8 : Int) (H : AHeap) : Prop :=
  N2 x3 x6 x7 (IntKind.i64.wrap (x8 + 1)) H
theorem q3 (P : PT) (N2 : NTy k1 Pr) : QB Tryz.prog T0 18 o3 (En 18 k1 N2) k1 (B3 P N2) := fun _ _ _ _ _ _  => by kernel_rfl
abbrev k2 : Sk := [(3,.i .u64),(5,.i .i64),(6,.v),(7,.i .i64),(8,.i .i64)]
noncomputable def o4 := ob Tryz.f89 [.r,.r,.l,.r,.l,.l,.r,.r,.l,.l,.r]
def B4 (P : PT) (N2 : NTy k1 Pr) (x3 x5 : Int) (x6 : Value) (x7 x8 : Int) (H : AHeap) : Prop :=
  ((0 : Int) ≤ x5) ∧ (B3 P N2 (IntKind.u64.wrap (BitVec.ofInt 64 x3 ||| BitVec.ofInt 64 (IntKind.u64.wrap (1 * 2 ^ (min (Int.toNat x5) 64)))).toNat) x6 x7 x8 H)
theorem q4 (P : PT) (N2 : NTy k1 Pr) : QB Tryz.prog T0 18 o4 (En 18 k1 (B3 P N2)) k2 (B4 P N2) := fun _ _ _ _ _ _ _  => by kernel_rfl
noncomputable def o5 := ob Tryz.f89 [.r,.r,.l,.r,.l,.l,.r,.r,.l,.l,.l]
def B5 (P : PT) (N2 : NTy k1 Pr) (x3 : Int) (x6 : Value) (x7 x8 : Int) (H : AHeap) : Prop :=
  idxK x6 x8 1 (fun b1 o2 => ldI .i64 H b1 o2 (fun v3 => B4 P N2 x3 v3 x6 x7 x8 H))
theorem q5 (P : PT) (N2 : NTy k1 Pr) : QB Tryz.prog T0 18 o5 (En 18 k2 (B4 P N2)) k1 (B5 P N2) := fun _ _ _ _ _ _  => by kernel_rfl
noncomputable def o6 := ob Tryz.f89 [.r,.r,.l,.r,.l,.l,.l]
def B6 (P : PT) (N2 : NTy k1 Pr) (x3 : Int) (x6 : Value) (x7 x8 : Int) (H : AHeap) : Prop :=
  pif (decide ((x8 : Int) < x7)) (B5 P N2 x3 x6 x7 x8 H) (B1 P x3 H)
theorem q6 (P : PT) (N2 : NTy k1 Pr) : QB Tryz.prog T0 18 o6 (cnd 9 (En 18 k1 (B5 P N2)) (En 18 k0 (B1 P))) k1 (B6 P N2) := fun _ _ _ _ _ _  => by kernel_rfl
def L2 (P : PT) (x3 : Int) (x6 : Value) (x7 x8 : Int) (H : AHeap) : Prop :=
  ∃ (I : NTy k1 Pr) (μ : NTy k1 (AHeap → Nat)), I x3 x6 x7 x8 H ∧ ∀ y3 y6 y7 y8 G, I y3 y6 y7 y8 G → B6 P (fun z3 z6 z7 z8 G' => I z3 z6 z7 z8 G' ∧ μ z3 z6 z7 z8 G' < μ y3 y6 y7 y8 G) y3 y6 y7 y8 G
theorem l2 (P : PT) : LQ k1 (L2 P) (B6 P) := fun ⟨_,_,_,_,_⟩ _ ⟨I, μ, h0, hI⟩ => ⟨apT _ I, apT _ μ, h0, fun ⟨_,_,_,_,_⟩ _ h => hI _ _ _ _ _  h⟩
abbrev k3 : Sk := [(0,.v),(3,.i .u64)]
noncomputable def o7 := ob Tryz.f89 [.r,.r,.l,.l]
def B7 (P : PT) (x0 : Value) (x3 : Int) (H : AHeap) : Prop :=
  lenK x0 (fun n1 => L2 P x3 x0 (n1 : Int) 0 H)
theorem q7 (P : PT) : QB Tryz.prog T0 18 o7 (En 18 k1 (L2 P)) k3 (B7 P) := fun _ _ _ _  => by kernel_rfl
abbrev k4 : Sk := [(0,.v)]
noncomputable def o8 := ob Tryz.f89 [.r,.l]
def B8 (P : PT) (x0 : Value) (H : AHeap) : Prop :=
  B7 P x0 0 H
theorem q8 (P : PT) : QB Tryz.prog T0 18 o8 (En 18 k3 (B7 P)) k4 (B8 P) := fun _ _ _  => by kernel_rfl
noncomputable def o9 := ob Tryz.f89 [.l]
def B9 (P : PT) (x0 : Value) (H : AHeap) : Prop :=
  B8 P x0 H
theorem q9 (P : PT) : QB Tryz.prog T0 18 o9 (En 18 k4 (B8 P)) k4 (B9 P) := fun _ _ _  => by kernel_rfl
noncomputable def code : Code := (.seq (.region 0 ⟨o9⟩ false) (.seq (.region 1 ⟨o8⟩ false) (.seq (.seq (.region 2 ⟨o7⟩ false) (.block 0 (.loop (.seq (.region 3 ⟨o6⟩ false) (.seq (.cond (.tmp 9) .skip (.exit 0)) (.seq (.block 1 (.seq (.region 4 ⟨o5⟩ false) (.region 5 ⟨o4⟩ false))) (.region 6 ⟨o3⟩ false))))))) (.seq (.region 7 ⟨o1⟩ false) .ret))))
theorem body : Tryz.f89.body = some code := by kernel_rfl
theorem main (P : PT) : ∀ env H, (En 18 k4 (B9 P)) env H → AW Tryz.prog T0 code env H (mkQ (ret P) (fun _ _ _ => False) (ret P)) :=
  (r_seq (rB T0_ok (q9 P)) (r_seq (rB T0_ok (q8 P)) (r_seq (r_seq (rB T0_ok (q7 P)) (r_block (rL (l2 P) (fun N2 => (r_seq (rB T0_ok (q6 P N2)) (r_seq (r_cond rfl r_skip (r_exit (fun _ _ h => h))) (r_seq (r_block (r_seq (rB T0_ok (q5 P N2)) (rB T0_ok (q4 P N2)))) (rB T0_ok (q3 P N2))))))))) (r_seq (rB T0_ok (q1 P)) r_ret))))
theorem ac (P : PT) (x0 : Value) (H : AHeap) (h : B9 P x0 H) : AC Tryz.prog T0 89 [x0] H P :=
  r_fn T0_ok (c := code) (n := 18) Tryz.func89 body (by kernel_rfl) (main P) (En_mk (x0, ()) (by kernel_rfl) ⟨by kernel_rfl, trivial⟩ h)

end F89
-- loop.example/g01329/spec.l01Parts
namespace F92
noncomputable def ret (P : PT) : EP := retE T0 25 Tryz.f92 P
abbrev k0 : Sk := [(6,.i .i64)]
noncomputable def o1 := ob Tryz.f92 [.r,.r,.r,.l]
def B1 (P : PT) (x6 : Int) (H : AHeap) : Prop :=
  P (Value.int .i64 x6) H
theorem q1 (P : PT) : QB Tryz.prog T0 25 o1 (ret P) k0 (B1 P) := fun _ _ _  => by kernel_rfl
abbrev k1 : Sk := [(0,.i .i64),(5,.v),(6,.i .i64),(7,.i .i64)]
noncomputable def o3 := ob Tryz.f92 [.r,.r,.l,.r,.l,.l,.r,.r]
def B3 (P : PT) (N2 : NTy k1 Pr) (x0 : Int) (x5 : Value) (x6 x7 : Int) (H : AHeap) : Prop :=
  N2 x0 x5 x6 (IntKind.i64.wrap (x7 + 1)) H
theorem q3 (P : PT) (N2 : NTy k1 Pr) : QB Tryz.prog T0 25 o3 (En 25 k1 N2) k1 (B3 P N2) := fun _ _ _ _ _ _  => by kernel_rfl
noncomputable def o4 := ob Tryz.f92 [.r,.r,.l,.r,.l,.l,.r,.l,.l,.r,.l]
def B4 (P : PT) (N2 : NTy k1 Pr) (x0 : Int) (x5 : Value) (x6 x7 : Int) (H : AHeap) : Prop :=
  B3 P N2 x0 x5 (IntKind.i64.wrap (x6 + 1)) x7 H
theorem q4 (P : PT) (N2 : NTy k1 Pr) : QB Tryz.prog T0 25 o4 (En 25 k1 (B3 P N2)) k1 (B4 P N2) := fun _ _ _ _ _ _  => by kernel_rfl
noncomputable def o5 := ob Tryz.f92 [.r,.r,.l,.r,.l,.l,.r,.l,.l,.l]
def B5 (P : PT) (N2 : NTy k1 Pr) (x0 : Int) (x5 : Value) (x6 x7 : Int) (H : AHeap) : Prop :=
  idxK x5 x7 1 (fun b1 o2 => ldI .i64 H b1 o2 (fun v3 => pif ((v3 : Int) == x7) (B4 P N2 x0 x5 x6 x7 H) (B3 P N2 x0 x5 x6 x7 H)))
theorem q5 (P : PT) (N2 : NTy k1 Pr) : QB Tryz.prog T0 25 o5 (cnd 21 (En 25 k1 (B4 P N2)) (En 25 k1 (B3 P N2))) k1 (B5 P N2) := fun _ _ _ _ _ _  => by kernel_rfl
noncomputable def o6 := ob Tryz.f92 [.r,.r,.l,.r,.l,.l,.l,.l]
def B6 (P : PT) (N2 : NTy k1 Pr) (x0 : Int) (x5 : Value) (x6 x7 : Int) (H : AHeap) : Prop :=
  pif (decide ((x7 : Int) < x0)) (B5 P N2 x0 x5 x6 x7 H) (B1 P x6 H)
theorem q6 (P : PT) (N2 : NTy k1 Pr) : QB Tryz.prog T0 25 o6 (cnd 13 (En 25 k1 (B5 P N2)) (En 25 k0 (B1 P))) k1 (B6 P N2) := fun _ _ _ _ _ _  => by kernel_rfl
def L2 (P : PT) (x0 : Int) (x5 : Value) (x6 x7 : Int) (H : AHeap) : Prop :=
  ∃ (I : NTy k1 Pr) (μ : NTy k1 (AHeap → Nat)), I x0 x5 x6 x7 H ∧ ∀ y0 y5 y6 y7 G, I y0 y5 y6 y7 G → B6 P (fun z0 z5 z6 z7 G' => I z0 z5 z6 z7 G' ∧ μ z0 z5 z6 z7 G' < μ y0 y5 y6 y7 G) y0 y5 y6 y7 G
theorem l2 (P : PT) : LQ k1 (L2 P) (B6 P) := fun ⟨_,_,_,_,_⟩ _ ⟨I, μ, h0, hI⟩ => ⟨apT _ I, apT _ μ, h0, fun ⟨_,_,_,_,_⟩ _ h => hI _ _ _ _ _  h⟩
abbrev k2 : Sk := [(0,.i .i64),(5,.v),(6,.i .i64)]
noncomputable def o7 := ob Tryz.f92 [.r,.r,.l,.l]
def B7 (P : PT) (x0 : Int) (x5 : Value) (x6 : Int) (H : AHeap) : Prop :=
  L2 P x0 x5 x6 0 H
theorem q7 (P : PT) : QB Tryz.prog T0 25 o7 (En 25 k1 (L2 P)) k2 (B7 P) := fun _ _ _ _ _  => by kernel_rfl
abbrev k3 : Sk := [(0,.i .i64),(1,.v)]
noncomputable def o8 := ob Tryz.f92 [.r,.l]
def B8 (P : PT) (x0 : Int) (x1 : Value) (H : AHeap) : Prop :=
  AC Tryz.prog T0 105 [(Value.int .i64 x0), x1] H (fun v1 H2 => B7 P x0 v1 0 H2)
theorem q8 (P : PT) : QB Tryz.prog T0 25 o8 (En 25 k2 (B7 P)) k3 (B8 P) := fun _ _ _ _  => by kernel_rfl
noncomputable def o9 := ob Tryz.f92 [.l]
def B9 (P : PT) (x0 : Int) (x1 : Value) (H : AHeap) : Prop :=
  B8 P x0 x1 H
theorem q9 (P : PT) : QB Tryz.prog T0 25 o9 (En 25 k3 (B8 P)) k3 (B9 P) := fun _ _ _ _  => by kernel_rfl
noncomputable def code : Code := (.seq (.region 0 ⟨o9⟩ false) (.seq (.region 1 ⟨o8⟩ false) (.seq (.seq (.region 2 ⟨o7⟩ false) (.block 0 (.loop (.seq (.seq (.region 3 ⟨o6⟩ false) (.cond (.tmp 13) .skip (.exit 0))) (.seq (.block 1 (.seq (.region 5 ⟨o5⟩ false) (.cond (.tmp 21) (.region 6 ⟨o4⟩ false) .skip))) (.region 4 ⟨o3⟩ false)))))) (.seq (.region 7 ⟨o1⟩ false) .ret))))
theorem body : Tryz.f92.body = some code := by kernel_rfl
theorem main (P : PT) : ∀ env H, (En 25 k3 (B9 P)) env H → AW Tryz.prog T0 code env H (mkQ (ret P) (fun _ _ _ => False) (ret P)) :=
  (r_seq (rB T0_ok (q9 P)) (r_seq (rB T0_ok (q8 P)) (r_seq (r_seq (rB T0_ok (q7 P)) (r_block (rL (l2 P) (fun N2 => (r_seq (r_seq (rB T0_ok (q6 P N2)) (r_cond rfl r_skip (r_exit (fun _ _ h => h)))) (r_seq (r_block (r_seq (rB T0_ok (q5 P N2)) (r_cond rfl (rB T0_ok (q4 P N2)) r_skip))) (rB T0_ok (q3 P N2)))))))) (r_seq (rB T0_ok (q1 P)) r_ret))))
theorem ac (P : PT) (x0 : Int) (x1 : Value) (H : AHeap) (h : B9 P x0 x1 H) : AC Tryz.prog T0 92 [(Value.int .i64 x0), x1] H P :=
  r_fn T0_ok (c := code) (n := 25) Tryz.func92 body (by kernel_rfl) (main P) (En_mk (x0, x1, ()) (by kernel_rfl) ⟨by kernel_rfl, by kernel_rfl, trivial⟩ h)

end F92
-- loop.example/g01329/spec.l03Rest
namespace F93
noncomputable def ret (P : PT) : EP := retE T0 39 Tryz.f93 P
abbrev k0 : Sk := [(5,.v)]
noncomputable def o1 := ob Tryz.f93 [.r,.r,.r,.l]
def B1 (P : PT) (x5 : Value) (H : AHeap) : Prop :=
  P x5 H
theorem q1 (P : PT) : QB Tryz.prog T0 39 o1 (ret P) k0 (B1 P) := fun _ _ _  => by kernel_rfl
abbrev k1 : Sk := [(1,.v),(2,.x),(5,.v),(6,.i .i64),(7,.i .i64)]
noncomputable def o3 := ob Tryz.f93 [.r,.r,.l,.r,.l,.l,.r,.r]
def B3 (P : PT) (N2 : NTy k1 Pr) (x1 : Value) (x2 : Nat) (x5 : Value) (x6 x7 : Int) (H : AHeap) : Prop :=
  N2 x1 x2 x5 x6 (IntKind.i64.wrap (x7 + 1)) H
theorem q3 (P : PT) (N2 : NTy k1 Pr) : QB Tryz.prog T0 39 o3 (En 39 k1 N2) k1 (B3 P N2) := fun _ _ _ _ _ _ _  => by kernel_rfl
noncomputable def o4 := ob Tryz.f93 [.r,.r,.l,.r,.l,.l,.r,.l,.l,.r]
def B4 (P : PT) (N2 : NTy k1 Pr) (x1 : Value) (x2 : Nat) (x5 : Value) (x6 x7 : Int) (H : AHeap) : Prop :=
  ld1 H x2 1 (fun v1 => idxK v1 x7 2 (fun b2 o3 => ldI .i64 H b2 o3 (fun v4 => ldI .i64 H b2 (o3 + 1) (fun v5 => newK H [(Value.int .i64 v4), (Value.int .i64 v5)] 78 (fun b6 H7 => apK T0 78 H7 x5 (Value.slice (some ⟨b6, 0, none⟩) 1 (1 + 1)) (fun v8 H9 => B3 P N2 x1 x2 v8 x6 x7 H9))))))
theorem q4 (P : PT) (N2 : NTy k1 Pr) : QB Tryz.prog T0 39 o4 (En 39 k1 (B3 P N2)) k1 (B4 P N2) := fun _ _ _ _ _ _ _  => by kernel_rfl
noncomputable def o5 := ob Tryz.f93 [.r,.r,.l,.r,.l,.l,.r,.l,.l,.l,.r,.l,.l]
def B5 (P : PT) (N2 : NTy k1 Pr) (x1 : Value) (x2 : Nat) (x5 : Value) (x6 x7 : Int) (H : AHeap) : Prop :=
  B3 P N2 x1 x2 x5 (IntKind.i64.wrap (x6 + 1)) x7 H
theorem q5 (P : PT) (N2 : NTy k1 Pr) : QB Tryz.prog T0 39 o5 (En 39 k1 (B3 P N2)) k1 (B5 P N2) := fun _ _ _ _ _ _ _  => by kernel_rfl
noncomputable def o6 := ob Tryz.f93 [.r,.r,.l,.r,.l,.l,.r,.l,.l,.l,.l]
def B6 (P : PT) (N2 : NTy k1 Pr) (x1 : Value) (x2 : Nat) (x5 : Value) (x6 x7 : Int) (H : AHeap) : Prop :=
  lenK x1 (fun n1 => pif (decide ((x6 : Int) < (n1 : Int))) (idxK x1 x6 1 (fun b2 o3 => ldI .i64 H b2 o3 (fun v4 => pif ((v4 : Int) == x7) (B5 P N2 x1 x2 x5 x6 x7 H) (B4 P N2 x1 x2 x5 x6 x7 H)))) (B4 P N2 x1 x2 x5 x6 x7 H))
theorem q6 (P : PT) (N2 : NTy k1 Pr) : QB Tryz.prog T0 39 o6 (cnd 27 (En 39 k1 (B5 P N2)) (En 39 k1 (B4 P N2))) k1 (B6 P N2) := fun _ _ _ _ _ _ _  => by kernel_rfl
noncomputable def o7 := ob Tryz.f93 [.r,.r,.l,.r,.l,.l,.l,.l]
def B7 (P : PT) (N2 : NTy k1 Pr) (x1 : Value) (x2 : Nat) (x5 : Value) (x6 x7 : Int) (H : AHeap) : Prop :=
  ld1 H x2 1 (fun v1 => lenK v1 (fun n2 => pif (decide ((x7 : Int) < (n2 : Int))) (B6 P N2 x1 x2 x5 x6 x7 H) (B1 P x5 H)))
theorem q7 (P : PT) (N2 : NTy k1 Pr) : QB Tryz.prog T0 39 o7 (cnd 13 (En 39 k1 (B6 P N2)) (En 39 k0 (B1 P))) k1 (B7 P N2) := fun _ _ _ _ _ _ _  => by kernel_rfl
def L2 (P : PT) (x1 : Value) (x2 : Nat) (x5 : Value) (x6 x7 : Int) (H : AHeap) : Prop :=
  ∃ (I : NTy k1 Pr) (μ : NTy k1 (AHeap → Nat)), I x1 x2 x5 x6 x7 H ∧ ∀ y1 y2 y5 y6 y7 G, I y1 y2 y5 y6 y7 G → B7 P (fun z1 z2 z5 z6 z7 G' => I z1 z2 z5 z6 z7 G' ∧ μ z1 z2 z5 z6 z7 G' < μ y1 y2 y5 y6 y7 G) y1 y2 y5 y6 y7 G
theorem l2 (P : PT) : LQ k1 (L2 P) (B7 P) := fun ⟨_,_,_,_,_,_⟩ _ ⟨I, μ, h0, hI⟩ => ⟨apT _ I, apT _ μ, h0, fun ⟨_,_,_,_,_,_⟩ _ h => hI _ _ _ _ _ _  h⟩
abbrev k2 : Sk := [(1,.v),(2,.x),(5,.v),(6,.i .i64)]
noncomputable def o8 := ob Tryz.f93 [.r,.r,.l,.l]
def B8 (P : PT) (x1 : Value) (x2 : Nat) (x5 : Value) (x6 : Int) (H : AHeap) : Prop :=
  L2 P x1 x2 x5 x6 0 H
theorem q8 (P : PT) : QB Tryz.prog T0 39 o8 (En 39 k1 (L2 P)) k2 (B8 P) := fun _ _ _ _ _ _  => by kernel_rfl
abbrev k3 : Sk := [(1,.v),(2,.x)]
noncomputable def o9 := ob Tryz.f93 [.r,.l]
def B9 (P : PT) (x1 : Value) (x2 : Nat) (H : AHeap) : Prop :=
  newK H [] 78 (fun b1 H2 => B8 P x1 x2 (Value.slice (some ⟨b1, 0, none⟩) 0 (0 + 1)) 0 H2)
theorem q9 (P : PT) : QB Tryz.prog T0 39 o9 (En 39 k2 (B8 P)) k3 (B9 P) := fun _ _ _ _  => by kernel_rfl
abbrev k4 : Sk := [(0,.g [.i,.v]),(1,.v)]
noncomputable def o10 := ob Tryz.f93 [.l]
def B10 (P : PT) (x0a : Int) (x0b x1 : Value) (H : AHeap) : Prop :=
  newK H [(Value.int .i64 x0a), x0b] 26 (fun b1 H2 => B9 P x1 b1 H2)
theorem q10 (P : PT) : QB Tryz.prog T0 39 o10 (En 39 k3 (B9 P)) k4 (B10 P) := fun _ _ _ _ _  => by kernel_rfl
noncomputable def code : Code := (.seq (.region 0 ⟨o10⟩ false) (.seq (.region 1 ⟨o9⟩ false) (.seq (.seq (.region 2 ⟨o8⟩ false) (.block 0 (.loop (.seq (.seq (.region 3 ⟨o7⟩ false) (.cond (.tmp 13) .skip (.exit 0))) (.seq (.block 1 (.seq (.seq (.region 5 ⟨o6⟩ false) (.cond (.tmp 27) (.seq (.region 6 ⟨o5⟩ false) (.exit 1)) .skip)) (.region 7 ⟨o4⟩ false))) (.region 4 ⟨o3⟩ false)))))) (.seq (.region 8 ⟨o1⟩ false) .ret))))
theorem body : Tryz.f93.body = some code := by kernel_rfl
theorem main (P : PT) : ∀ env H, (En 39 k4 (B10 P)) env H → AW Tryz.prog T0 code env H (mkQ (ret P) (fun _ _ _ => False) (ret P)) :=
  (r_seq (rB T0_ok (q10 P)) (r_seq (rB T0_ok (q9 P)) (r_seq (r_seq (rB T0_ok (q8 P)) (r_block (rL (l2 P) (fun N2 => (r_seq (r_seq (rB T0_ok (q7 P N2)) (r_cond rfl r_skip (r_exit (fun _ _ h => h)))) (r_seq (r_block (r_seq (r_seq (rB T0_ok (q6 P N2)) (r_cond rfl (r_seq (rB T0_ok (q5 P N2)) (r_exit (fun _ _ h => h))) r_skip)) (rB T0_ok (q4 P N2)))) (rB T0_ok (q3 P N2)))))))) (r_seq (rB T0_ok (q1 P)) r_ret))))
theorem ac (P : PT) (x0a : Int) (x0b x1 : Value) (H : AHeap) (h : B10 P x0a x0b x1 H) : AC Tryz.prog T0 93 [(Value.agg ⟨[(Value.int .i64 x0a), x0b]⟩), x1] H P :=
  r_fn T0_ok (c := code) (n := 39) Tryz.func93 body (by kernel_rfl) (main P) (En_mk (x0a, x0b, x1, ()) (by kernel_rfl) ⟨by kernel_rfl, by kernel_rfl, trivial⟩ h)

end F93
-- (loop.example/g01329/impl.Graph).isCyclic
namespace F94
noncomputable def ret (P : PT) : EP := retE T0 20 Tryz.f94 P
abbrev k0 : Sk := [(1,.i .u64),(2,.x),(6,.i .i64)]
noncomputable def o1 := ob Tryz.f94 [.r,.r,.l]
def B1 (P : PT) (x1 : Int) (x2 : Nat) (x6 : Int) (H : AHeap) : Prop :=
  pif (decide ((x6 : Int) ≥ 2)) (ldI .i64 H x2 0 (fun v1 => ld1 H x2 1 (fun v2 => AC Tryz.prog T0 74 [(Value.agg ⟨[(Value.int .i64 v1), v2]⟩), (Value.int .u64 x1)] H (fun v3 H4 => asB v3 (fun v5 => P (Value.bool v5) H4))))) (P (Value.bool false) H)
theorem q1 (P : PT) : QB Tryz.prog T0 20 o1 (ret P) k0 (B1 P) := fun _ _ _ _ _  => by kernel_rfl
abbrev k1 : Sk := [(1,.i .u64),(2,.x)]
noncomputable def o2 := ob Tryz.f94 [.r,.l]
def B2 (P : PT) (x1 : Int) (x2 : Nat) (H : AHeap) : Prop :=
  ldI .i64 H x2 0 (fun v1 => ld1 H x2 1 (fun v2 => AC Tryz.prog T0 106 [(Value.agg ⟨[(Value.int .i64 v1), v2]⟩), (Value.int .u64 x1)] H (fun v3 H4 => tup2 v3 (fun v5 v6 => asI .i64 v5 (fun v7 => asI .i64 v6 (fun v8 => B1 P x1 x2 v8 H4))))))
theorem q2 (P : PT) : QB Tryz.prog T0 20 o2 (En 20 k0 (B1 P)) k1 (B2 P) := fun _ _ _ _  => by kernel_rfl
abbrev k2 : Sk := [(0,.g [.i,.v]),(1,.i .u64)]
noncomputable def o3 := ob Tryz.f94 [.l]
def B3 (P : PT) (x0a : Int) (x0b : Value) (x1 : Int) (H : AHeap) : Prop :=
  newK H [(Value.int .i64 x0a), x0b] 26 (fun b1 H2 => B2 P x1 b1 H2)
theorem q3 (P : PT) : QB Tryz.prog T0 20 o3 (En 20 k1 (B2 P)) k2 (B3 P) := fun _ _ _ _ _  => by kernel_rfl
noncomputable def code : Code := (.seq (.region 0 ⟨o3⟩ false) (.seq (.region 1 ⟨o2⟩ false) (.seq (.region 2 ⟨o1⟩ false) .ret)))
theorem body : Tryz.f94.body = some code := by kernel_rfl
theorem main (P : PT) : ∀ env H, (En 20 k2 (B3 P)) env H → AW Tryz.prog T0 code env H (mkQ (ret P) (fun _ _ _ => False) (ret P)) :=
  (r_seq (rB T0_ok (q3 P)) (r_seq (rB T0_ok (q2 P)) (r_seq (rB T0_ok (q1 P)) r_ret)))
theorem ac (P : PT) (x0a : Int) (x0b : Value) (x1 : Int) (H : AHeap) (h : B3 P x0a x0b x1 H) : AC Tryz.prog T0 94 [(Value.agg ⟨[(Value.int .i64 x0a), x0b]⟩), (Value.int .u64 x1)] H P :=
  r_fn T0_ok (c := code) (n := 20) Tryz.func94 body (by kernel_rfl) (main P) (En_mk (x0a, x0b, x1, ()) (by kernel_rfl) ⟨by kernel_rfl, by kernel_rfl, trivial⟩ h)

end F94
-- loop.example/g01329/spec.l03Cyclic
namespace F95
noncomputable def ret (P : PT) : EP := retE T0 24 Tryz.f95 P
abbrev k0 : Sk := [(2,.x),(5,.i .i64),(6,.i .i64)]
noncomputable def o1 := ob Tryz.f95 [.r,.r,.l]
def B1 (P : PT) (x2 : Nat) (x5 x6 : Int) (H : AHeap) : Prop :=
  pif (decide ((x6 : Int) ≥ 2)) (ldI .i64 H x2 0 (fun v1 => ld1 H x2 1 (fun v2 => AC Tryz.prog T0 92 [(Value.int .i64 v1), v2] H (fun v3 H4 => asI .i64 v3 (fun v5 => P (Value.bool (decide ((x5 : Int) > v5))) H4))))) (P (Value.bool false) H)
theorem q1 (P : PT) : QB Tryz.prog T0 24 o1 (ret P) k0 (B1 P) := fun _ _ _ _ _  => by kernel_rfl
abbrev k1 : Sk := [(1,.v),(2,.x)]
noncomputable def o2 := ob Tryz.f95 [.r,.l]
def B2 (P : PT) (x1 : Value) (x2 : Nat) (H : AHeap) : Prop :=
  ldI .i64 H x2 0 (fun v1 => ld1 H x2 1 (fun v2 => AC Tryz.prog T0 107 [(Value.agg ⟨[(Value.int .i64 v1), v2]⟩), x1] H (fun v3 H4 => tup2 v3 (fun v5 v6 => asI .i64 v5 (fun v7 => asI .i64 v6 (fun v8 => B1 P x2 v7 v8 H4))))))
theorem q2 (P : PT) : QB Tryz.prog T0 24 o2 (En 24 k0 (B1 P)) k1 (B2 P) := fun _ _ _ _  => by kernel_rfl
abbrev k2 : Sk := [(0,.g [.i,.v]),(1,.v)]
noncomputable def o3 := ob Tryz.f95 [.l]
def B3 (P : PT) (x0a : Int) (x0b x1 : Value) (H : AHeap) : Prop :=
  newK H [(Value.int .i64 x0a), x0b] 26 (fun b1 H2 => B2 P x1 b1 H2)
theorem q3 (P : PT) : QB Tryz.prog T0 24 o3 (En 24 k1 (B2 P)) k2 (B3 P) := fun _ _ _ _ _  => by kernel_rfl
noncomputable def code : Code := (.seq (.region 0 ⟨o3⟩ false) (.seq (.region 1 ⟨o2⟩ false) (.seq (.region 2 ⟨o1⟩ false) .ret)))
theorem body : Tryz.f95.body = some code := by kernel_rfl
theorem main (P : PT) : ∀ env H, (En 24 k2 (B3 P)) env H → AW Tryz.prog T0 code env H (mkQ (ret P) (fun _ _ _ => False) (ret P)) :=
  (r_seq (rB T0_ok (q3 P)) (r_seq (rB T0_ok (q2 P)) (r_seq (rB T0_ok (q1 P)) r_ret)))
theorem ac (P : PT) (x0a : Int) (x0b x1 : Value) (H : AHeap) (h : B3 P x0a x0b x1 H) : AC Tryz.prog T0 95 [(Value.agg ⟨[(Value.int .i64 x0a), x0b]⟩), x1] H P :=
  r_fn T0_ok (c := code) (n := 24) Tryz.func95 body (by kernel_rfl) (main P) (En_mk (x0a, x0b, x1, ()) (by kernel_rfl) ⟨by kernel_rfl, by kernel_rfl, trivial⟩ h)

end F95
-- loop.example/g01329/spec.l01Draw
namespace F96
noncomputable def ret (P : PT) : EP := retE T0 40 Tryz.f96 P
abbrev k0 : Sk := [(0,.v),(2,.x)]
noncomputable def o1 := ob Tryz.f96 [.r,.r,.r,.l]
def B1 (P : PT) (x0 : Value) (x2 : Nat) (H : AHeap) : Prop :=
  newK H [(Value.int .i64 2), (Value.int .i64 4), (Value.int .i64 6), (Value.int .i64 8), (Value.int .i64 10), (Value.int .i64 12), (Value.int .i64 14), (Value.int .i64 20)] 2 (fun b1 H2 => AC Tryz.prog T0 83 [x0, (Value.slice (some ⟨b1, 0, none⟩) 8 (8 + 1))] H2 (fun v3 H4 => asI .i64 v3 (fun v5 => AC Tryz.prog T0 150 [x0, (Value.int .i64 v5)] H4 (fun v6 H7 => agg2 v6 (fun v8 v9 => asI .i64 v8 (fun v10 => stK H7 x2 0 [(Value.int .i64 v10), v9] (fun H12 => ldI .i64 H12 x2 0 (fun v13 => ld1 H12 x2 1 (fun v14 => P (Value.agg ⟨[(Value.int .i64 v13), v14]⟩) H12)))))))))
theorem q1 (P : PT) : QB Tryz.prog T0 40 o1 (ret P) k0 (B1 P) := fun _ _ _ _  => by kernel_rfl
noncomputable def o2 := ob Tryz.f96 [.r,.r,.l,.r,.l,.l]
def B2 (P : PT) (x0 : Value) (x2 : Nat) (H : AHeap) : Prop :=
  AC Tryz.prog T0 82 [x0] H (fun v1 H2 => agg2 v1 (fun v3 v4 => asI .i64 v3 (fun v5 => AC Tryz.prog T0 82 [x0] H2 (fun v7 H8 => agg2 v7 (fun v9 v10 => asI .i64 v9 (fun v11 => AC Tryz.prog T0 153 [(Value.agg ⟨[(Value.int .i64 v5), v4]⟩), (Value.agg ⟨[(Value.int .i64 v11), v10]⟩)] H8 (fun v13 H14 => agg2 v13 (fun v15 v16 => asI .i64 v15 (fun v17 => stK H14 x2 0 [(Value.int .i64 v17), v16] (fun H19 => ldI .i64 H19 x2 0 (fun v20 => ld1 H19 x2 1 (fun v21 => P (Value.agg ⟨[(Value.int .i64 v20), v21]⟩) H19))))))))))))
theorem q2 (P : PT) : QB Tryz.prog T0 40 o2 (ret P) k0 (B2 P) := fun _ _ _ _  => by kernel_rfl
noncomputable def o3 := ob Tryz.f96 [.r,.r,.l,.l]
def B3 (P : PT) (x0 : Value) (x2 : Nat) (H : AHeap) : Prop :=
  AC Tryz.prog T0 66 [x0, (Value.int .i64 8)] H (fun v1 H2 => asI .i64 v1 (fun v3 => pif ((v3 : Int) == 0) (B2 P x0 x2 H2) (B1 P x0 x2 H2)))
theorem q3 (P : PT) : QB Tryz.prog T0 40 o3 (cnd 29 (En 40 k0 (B2 P)) (En 40 k0 (B1 P))) k0 (B3 P) := fun _ _ _ _  => by kernel_rfl
abbrev k1 : Sk := [(0,.v),(2,.x),(4,.x)]
noncomputable def o4 := ob Tryz.f96 [.r,.l,.r,.l,.r,.r,.l]
def B4 (P : PT) (x0 : Value) (x2 x4 : Nat) (H : AHeap) : Prop :=
  ldI .i64 H x4 0 (fun v1 => ld1 H x4 1 (fun v2 => ldI .i64 H x4 0 (fun v3 => AC Tryz.prog T0 70 [x0, (Value.int .i64 v3)] H (fun v4 H5 => (ldI .i64 H5 x4 0 (fun v7 => ld1 H5 x4 1 (fun v8 => ((Value.agg ⟨[(Value.int .i64 v7), v8]⟩) = (Value.agg ⟨[(Value.int .i64 v1), v2]⟩)) ∧ (H5 = H5)))) ∧ (AC Tryz.prog T0 69 [(Value.agg ⟨[(Value.int .i64 v1), v2]⟩), v4] H5 (fun v9 H10 => agg2 v9 (fun v11 v12 => asI .i64 v11 (fun v13 => stK H10 x2 0 [(Value.int .i64 v13), v12] (fun H15 => ldI .i64 H15 x2 0 (fun v16 => ld1 H15 x2 1 (fun v17 => P (Value.agg ⟨[(Value.int .i64 v16), v17]⟩) H15)))))))))))
theorem q4 (P : PT) : QT Tryz.prog T0 40 o4 (.op 0 [] (.op 1 [] (.op 2 [] (.op 3 [] (.op 4 [0] (.op 5 [] (.op 6 [] .done))))))) (ret P) k1 (B4 P) := fun _ _ _ _ _  => by kernel_rfl
abbrev k2 : Sk := [(0,.v),(2,.x),(3,.v)]
noncomputable def o5 := ob Tryz.f96 [.r,.l,.r,.l,.r,.l]
def B5 (P : PT) (x0 : Value) (x2 : Nat) (x3 : Value) (H : AHeap) : Prop :=
  lenK x3 (fun n1 => AC Tryz.prog T0 66 [x0, (Value.int .i64 (n1 : Int))] H (fun v2 H3 => asI .i64 v2 (fun v4 => idxK x3 v4 1 (fun b5 o6 => ld1 H3 b5 o6 (fun v8 => asS v8 (fun v7 => AC Tryz.prog T0 67 [(Value.string v7)] H3 (fun v9 H10 => tup2 v9 (fun v11 v12 => agg2 v11 (fun v13 v14 => asI .i64 v13 (fun v15 => asB v12 (fun v17 => newK H10 [(Value.int .i64 0), (Value.slice none 0 0)] 26 (fun b18 H19 => stK H19 b18 0 [(Value.int .i64 v15), v14] (fun H20 => B4 P x0 x2 b18 H20)))))))))))))
theorem q5 (P : PT) : QB Tryz.prog T0 40 o5 (En 40 k1 (B4 P)) k2 (B5 P) := fun _ _ _ _ _  => by kernel_rfl
noncomputable def o6 := ob Tryz.f96 [.r,.l,.r,.l,.l]
def B6 (P : PT) (x0 : Value) (x2 : Nat) (H : AHeap) : Prop :=
  AC Tryz.prog T0 152 [] H (fun v1 H2 => B5 P x0 x2 v1 H2)
theorem q6 (P : PT) : QB Tryz.prog T0 40 o6 (En 40 k2 (B5 P)) k0 (B6 P) := fun _ _ _ _  => by kernel_rfl
noncomputable def o7 := ob Tryz.f96 [.r,.l,.l]
def B7 (P : PT) (x0 : Value) (x2 : Nat) (H : AHeap) : Prop :=
  AC Tryz.prog T0 66 [x0, (Value.int .i64 3)] H (fun v1 H2 => asI .i64 v1 (fun v3 => pif ((v3 : Int) == 0) (B6 P x0 x2 H2) (B3 P x0 x2 H2)))
theorem q7 (P : PT) : QB Tryz.prog T0 40 o7 (cnd 8 (En 40 k0 (B6 P)) (En 40 k0 (B3 P))) k0 (B7 P) := fun _ _ _ _  => by kernel_rfl
abbrev k3 : Sk := [(0,.v)]
noncomputable def o8 := ob Tryz.f96 [.l]
def B8 (P : PT) (x0 : Value) (H : AHeap) : Prop :=
  newK H [(Value.int .i64 0), (Value.slice none 0 0)] 26 (fun b1 H2 => B7 P x0 b1 H2)
theorem q8 (P : PT) : QB Tryz.prog T0 40 o8 (En 40 k0 (B7 P)) k3 (B8 P) := fun _ _ _  => by kernel_rfl
noncomputable def code : Code := (.seq (.region 0 ⟨o8⟩ false) (.seq (.seq (.region 1 ⟨o7⟩ false) (.cond (.tmp 8) (.seq (.region 2 ⟨o6⟩ false) (.seq (.region 3 ⟨o5⟩ false) (.seq (.region 4 ⟨o4⟩ true) .ret))) .skip)) (.seq (.seq (.region 5 ⟨o3⟩ false) (.cond (.tmp 29) (.seq (.region 6 ⟨o2⟩ false) .ret) .skip)) (.seq (.region 7 ⟨o1⟩ false) .ret))))
theorem body : Tryz.f96.body = some code := by kernel_rfl
theorem main (P : PT) : ∀ env H, (En 40 k3 (B8 P)) env H → AW Tryz.prog T0 code env H (mkQ (ret P) (fun _ _ _ => False) (ret P)) :=
  (r_seq (rB T0_ok (q8 P)) (r_seq (r_seq (rB T0_ok (q7 P)) (r_cond rfl (r_seq (rB T0_ok (q6 P)) (r_seq (rB T0_ok (q5 P)) (r_seq (rT T0_ok mixed (.op 0 [] (.op 1 [] (.op 2 [] (.op 3 [] (.op 4 [0] (.op 5 [] (.op 6 [] .done))))))) (by kernel_rfl) (q4 P)) r_ret))) r_skip)) (r_seq (r_seq (rB T0_ok (q3 P)) (r_cond rfl (r_seq (rB T0_ok (q2 P)) r_ret) r_skip)) (r_seq (rB T0_ok (q1 P)) r_ret))))
theorem ac (P : PT) (x0 : Value) (H : AHeap) (h : B8 P x0 H) : AC Tryz.prog T0 96 [x0] H P :=
  r_fn T0_ok (c := code) (n := 40) Tryz.func96 body (by kernel_rfl) (main P) (En_mk (x0, ()) (by kernel_rfl) ⟨by kernel_rfl, trivial⟩ h)

end F96
-- loop.example/g01329/spec.l03DrawSet
namespace F97
noncomputable def ret (P : PT) : EP := retE T0 35 Tryz.f97 P
abbrev k0 : Sk := [(7,.v)]
noncomputable def o1 := ob Tryz.f97 [.r,.r,.r,.r,.l]
def B1 (P : PT) (x7 : Value) (H : AHeap) : Prop :=
  P x7 H
theorem q1 (P : PT) : QB Tryz.prog T0 35 o1 (ret P) k0 (B1 P) := fun _ _ _  => by kernel_rfl
abbrev k1 : Sk := [(0,.v),(1,.i .i64),(7,.v)]
noncomputable def o2 := ob Tryz.f97 [.r,.r,.r,.l,.r,.l]
def B2 (P : PT) (x0 : Value) (x1 : Int) (x7 : Value) (H : AHeap) : Prop :=
  newK H [(Value.int .i64 0), (Value.int .i64 (-1)), (Value.int .i64 x1)] 2 (fun b1 H2 => AC Tryz.prog T0 83 [x0, (Value.slice (some ⟨b1, 0, none⟩) 3 (3 + 1))] H2 (fun v3 H4 => asI .i64 v3 (fun v5 => newK H4 [(Value.int .i64 v5)] 2 (fun b6 H7 => apK T0 2 H7 x7 (Value.slice (some ⟨b6, 0, none⟩) 1 (1 + 1)) (fun v8 H9 => B1 P v8 H9)))))
theorem q2 (P : PT) : QB Tryz.prog T0 35 o2 (En 35 k0 (B1 P)) k1 (B2 P) := fun _ _ _ _ _  => by kernel_rfl
noncomputable def o3 := ob Tryz.f97 [.r,.r,.r,.l,.l]
def B3 (P : PT) (x0 : Value) (x1 : Int) (x7 : Value) (H : AHeap) : Prop :=
  AC Tryz.prog T0 66 [x0, (Value.int .i64 24)] H (fun v1 H2 => asI .i64 v1 (fun v3 => pif ((v3 : Int) == 0) (B2 P x0 x1 x7 H2) (B1 P x7 H2)))
theorem q3 (P : PT) : QB Tryz.prog T0 35 o3 (cnd 26 (En 35 k1 (B2 P)) (En 35 k0 (B1 P))) k1 (B3 P) := fun _ _ _ _ _  => by kernel_rfl
abbrev k2 : Sk := [(0,.v),(1,.i .i64),(2,.i .i64),(7,.v),(8,.i .i64)]
noncomputable def o5 := ob Tryz.f97 [.r,.r,.l,.r,.l,.l,.r,.r]
def B5 (P : PT) (N4 : NTy k2 Pr) (x0 : Value) (x1 x2 : Int) (x7 : Value) (x8 : Int) (H : AHeap) : Prop :=
  N4 x0 x1 x2 x7 (IntKind.i64.wrap (x8 + 1)) H
theorem q5 (P : PT) (N4 : NTy k2 Pr) : QB Tryz.prog T0 35 o5 (En 35 k2 N4) k2 (B5 P N4) := fun _ _ _ _ _ _ _  => by kernel_rfl
noncomputable def o6 := ob Tryz.f97 [.r,.r,.l,.r,.l,.l,.r,.l,.l,.r,.l]
def B6 (P : PT) (N4 : NTy k2 Pr) (x0 : Value) (x1 x2 : Int) (x7 : Value) (x8 : Int) (H : AHeap) : Prop :=
  newK H [(Value.int .i64 x8)] 2 (fun b1 H2 => apK T0 2 H2 x7 (Value.slice (some ⟨b1, 0, none⟩) 1 (1 + 1)) (fun v3 H4 => B5 P N4 x0 x1 x2 v3 x8 H4))
theorem q6 (P : PT) (N4 : NTy k2 Pr) : QB Tryz.prog T0 35 o6 (En 35 k2 (B5 P N4)) k2 (B6 P N4) := fun _ _ _ _ _ _ _  => by kernel_rfl
noncomputable def o7 := ob Tryz.f97 [.r,.r,.l,.r,.l,.l,.r,.l,.l,.l]
def B7 (P : PT) (N4 : NTy k2 Pr) (x0 : Value) (x1 x2 : Int) (x7 : Value) (x8 : Int) (H : AHeap) : Prop :=
  AC Tryz.prog T0 66 [x0, (Value.int .i64 x1)] H (fun v1 H2 => asI .i64 v1 (fun v3 => pif (decide ((v3 : Int) < x2)) (B6 P N4 x0 x1 x2 x7 x8 H2) (B5 P N4 x0 x1 x2 x7 x8 H2)))
theorem q7 (P : PT) (N4 : NTy k2 Pr) : QB Tryz.prog T0 35 o7 (cnd 19 (En 35 k2 (B6 P N4)) (En 35 k2 (B5 P N4))) k2 (B7 P N4) := fun _ _ _ _ _ _ _  => by kernel_rfl
noncomputable def o8 := ob Tryz.f97 [.r,.r,.l,.r,.l,.l,.l,.l]
def B8 (P : PT) (N4 : NTy k2 Pr) (x0 : Value) (x1 x2 : Int) (x7 : Value) (x8 : Int) (H : AHeap) : Prop :=
  pif (decide ((x8 : Int) < x1)) (B7 P N4 x0 x1 x2 x7 x8 H) (B3 P x0 x1 x7 H)
theorem q8 (P : PT) (N4 : NTy k2 Pr) : QB Tryz.prog T0 35 o8 (cnd 12 (En 35 k2 (B7 P N4)) (En 35 k1 (B3 P))) k2 (B8 P N4) := fun _ _ _ _ _ _ _  => by kernel_rfl
def L4 (P : PT) (x0 : Value) (x1 x2 : Int) (x7 : Value) (x8 : Int) (H : AHeap) : Prop :=
  ∃ (I : NTy k2 Pr) (μ : NTy k2 (AHeap → Nat)), I x0 x1 x2 x7 x8 H ∧ ∀ y0 y1 y2 y7 y8 G, I y0 y1 y2 y7 y8 G → B8 P (fun z0 z1 z2 z7 z8 G' => I z0 z1 z2 z7 z8 G' ∧ μ z0 z1 z2 z7 z8 G' < μ y0 y1 y2 y7 y8 G) y0 y1 y2 y7 y8 G
theorem l4 (P : PT) : LQ k2 (L4 P) (B8 P) := fun ⟨_,_,_,_,_,_⟩ _ ⟨I, μ, h0, hI⟩ => ⟨apT _ I, apT _ μ, h0, fun ⟨_,_,_,_,_,_⟩ _ h => hI _ _ _ _ _ _  h⟩
abbrev k3 : Sk := [(0,.v),(1,.i .i64),(2,.i .i64),(7,.v)]
noncomputable def o9 := ob Tryz.f97 [.r,.r,.l,.l]
def B9 (P : PT) (x0 : Value) (x1 x2 : Int) (x7 : Value) (H : AHeap) : Prop :=
  L4 P x0 x1 x2 x7 0 H
theorem q9 (P : PT) : QB Tryz.prog T0 35 o9 (En 35 k2 (L4 P)) k3 (B9 P) := fun _ _ _ _ _ _  => by kernel_rfl
abbrev k4 : Sk := [(0,.v),(1,.i .i64),(2,.i .i64)]
noncomputable def o10 := ob Tryz.f97 [.r,.l]
def B10 (P : PT) (x0 : Value) (x1 x2 : Int) (H : AHeap) : Prop :=
  newK H [] 2 (fun b1 H2 => B9 P x0 x1 x2 (Value.slice (some ⟨b1, 0, none⟩) 0 (0 + 1)) H2)
theorem q10 (P : PT) : QB Tryz.prog T0 35 o10 (En 35 k3 (B9 P)) k4 (B10 P) := fun _ _ _ _ _  => by kernel_rfl
noncomputable def o11 := ob Tryz.f97 [.l]
def B11 (P : PT) (x0 : Value) (x1 x2 : Int) (H : AHeap) : Prop :=
  B10 P x0 x1 x2 H
theorem q11 (P : PT) : QB Tryz.prog T0 35 o11 (En 35 k4 (B10 P)) k4 (B11 P) := fun _ _ _ _ _  => by kernel_rfl
noncomputable def code : Code := (.seq (.region 0 ⟨o11⟩ false) (.seq (.region 1 ⟨o10⟩ false) (.seq (.seq (.region 2 ⟨o9⟩ false) (.block 0 (.loop (.seq (.seq (.region 3 ⟨o8⟩ false) (.cond (.tmp 12) .skip (.exit 0))) (.seq (.block 1 (.seq (.region 5 ⟨o7⟩ false) (.cond (.tmp 19) (.region 6 ⟨o6⟩ false) .skip))) (.region 4 ⟨o5⟩ false)))))) (.seq (.seq (.region 7 ⟨o3⟩ false) (.cond (.tmp 26) (.region 8 ⟨o2⟩ false) .skip)) (.seq (.region 9 ⟨o1⟩ false) .ret)))))
theorem body : Tryz.f97.body = some code := by kernel_rfl
theorem main (P : PT) : ∀ env H, (En 35 k4 (B11 P)) env H → AW Tryz.prog T0 code env H (mkQ (ret P) (fun _ _ _ => False) (ret P)) :=
  (r_seq (rB T0_ok (q11 P)) (r_seq (rB T0_ok (q10 P)) (r_seq (r_seq (rB T0_ok (q9 P)) (r_block (rL (l4 P) (fun N4 => (r_seq (r_seq (rB T0_ok (q8 P N4)) (r_cond rfl r_skip (r_exit (fun _ _ h => h)))) (r_seq (r_block (r_seq (rB T0_ok (q7 P N4)) (r_cond rfl (rB T0_ok (q6 P N4)) r_skip))) (rB T0_ok (q5 P N4)))))))) (r_seq (r_seq (rB T0_ok (q3 P)) (r_cond rfl (rB T0_ok (q2 P)) r_skip)) (r_seq (rB T0_ok (q1 P)) r_ret)))))
theorem ac (P : PT) (x0 : Value) (x1 x2 : Int) (H : AHeap) (h : B11 P x0 x1 x2 H) : AC Tryz.prog T0 97 [x0, (Value.int .i64 x1), (Value.int .i64 x2)] H P :=
  r_fn T0_ok (c := code) (n := 35) Tryz.func97 body (by kernel_rfl) (main P) (En_mk (x0, x1, x2, ()) (by kernel_rfl) ⟨by kernel_rfl, by kernel_rfl, by kernel_rfl, trivial⟩ h)

end F97
end Go.Proofs
