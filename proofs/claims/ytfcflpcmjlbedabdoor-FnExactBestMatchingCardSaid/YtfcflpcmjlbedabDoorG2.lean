import Derived.Test.YtfcflpcmjlbedabDoorT
set_option linter.unusedVariables false
set_option maxRecDepth 100000
namespace Go.Proofs
open Go.Abs
-- (loop.example/g01329/impl.Graph).cycles
namespace F63
noncomputable def ret (P : PT) : EP := retE T0 81 Tryd.f63 P
abbrev k0 : Sk := [(5,.v)]
noncomputable def o1 := ob Tryd.f63 [.r,.r,.r,.l]
def B1 (P : PT) (x5 : Value) (H : AHeap) : Prop :=
  P x5 H
theorem q1 (P : PT) : QB Tryd.prog T0 81 o1 (ret P) k0 (B1 P) := fun _ _ _  => by kernel_rfl
abbrev k1 : Sk := [(1,.i .u64),(2,.x),(5,.v),(15,.v),(16,.i .i64),(17,.i .i64)]
noncomputable def o3 := ob Tryd.f63 [.r,.r,.l,.r,.l,.l,.r,.r,.r]
def B3 (P : PT) (N2 : NTy k1 Pr) (x1 : Int) (x2 : Nat) (x5 x15 : Value) (x16 x17 : Int) (H : AHeap) : Prop :=
  N2 x1 x2 x5 x15 x16 (IntKind.i64.wrap (x17 + 1)) H
theorem q3 (P : PT) (N2 : NTy k1 Pr) : QB Tryd.prog T0 81 o3 (En 81 k1 N2) k1 (B3 P N2) := fun _ _ _ _ _ _ _ _  => by kernel_rfl
abbrev k2 : Sk := [(1,.i .u64),(2,.x),(5,.v),(8,.i .u64),(15,.v),(16,.i .i64),(17,.i .i64)]
noncomputable def o4 := ob Tryd.f63 [.r,.r,.l,.r,.l,.l,.r,.r,.l,.l,.r,.r,.r,.r]
def B4 (P : PT) (N2 : NTy k1 Pr) (x1 : Int) (x2 : Nat) (x5 : Value) (x8 : Int) (x15 : Value) (x16 x17 : Int) (H : AHeap) : Prop :=
  newK H [(Value.int .u64 x8)] 45 (fun b1 H2 => apK T0 45 H2 x5 (Value.slice (some ⟨b1, 0, none⟩) 1 (1 + 1)) (fun v3 H4 => B3 P N2 x1 x2 v3 x15 x16 x17 H4))
theorem q4 (P : PT) (N2 : NTy k1 Pr) : QB Tryd.prog T0 81 o4 (En 81 k1 (B3 P N2)) k2 (B4 P N2) := fun _ _ _ _ _ _ _ _ _  => by kernel_rfl
abbrev k3 : Sk := [(1,.i .u64),(2,.x),(5,.v),(8,.i .u64),(9,.v),(15,.v),(16,.i .i64),(17,.i .i64)]
noncomputable def o6 := ob Tryd.f63 [.r,.r,.l,.r,.l,.l,.r,.r,.l,.l,.r,.r,.r,.l,.r,.l,.l,.r,.r]
def B6 (P : PT) (N2 : NTy k1 Pr) (N5 : NTy k3 Pr) (x1 : Int) (x2 : Nat) (x5 : Value) (x8 : Int) (x9 x15 : Value) (x16 x17 : Int) (H : AHeap) : Prop :=
  sliceK H 2 x9 (some (Value.int .i64 1)) none 1 (fun v1 => N5 x1 x2 x5 x8 v1 x15 x16 x17 H)
theorem q6 (P : PT) (N2 : NTy k1 Pr) (N5 : NTy k3 Pr) : QB Tryd.prog T0 81 o6 (En 81 k3 N5) k3 (B6 P N2 N5) := fun _ _ _ _ _ _ _ _ _ _  => by kernel_rfl
abbrev k4 : Sk := [(1,.i .u64),(2,.x),(5,.v),(8,.i .u64),(9,.v),(15,.v),(16,.i .i64),(17,.i .i64),(44,.g [.i,.i]),(45,.i .i64)]
noncomputable def o8 := ob Tryd.f63 [.r,.r,.l,.r,.l,.l,.r,.r,.l,.l,.r,.r,.r,.l,.r,.l,.l,.r,.l,.l,.r,.l,.l,.r,.r,.r]
def B8 (P : PT) (N2 : NTy k1 Pr) (N5 : NTy k3 Pr) (N7 : NTy k4 Pr) (x1 : Int) (x2 : Nat) (x5 : Value) (x8 : Int) (x9 x15 : Value) (x16 x17 x44a x44b x45 : Int) (H : AHeap) : Prop :=
  N7 x1 x2 x5 x8 x9 x15 x16 x17 x44a x44b (IntKind.i64.wrap (x45 + 1)) H
theorem q8 (P : PT) (N2 : NTy k1 Pr) (N5 : NTy k3 Pr) (N7 : NTy k4 Pr) : QB Tryd.prog T0 81 o8 (En 81 k4 N7) k4 (B8 P N2 N5 N7) := fun _ _ _ _ _ _ _ _ _ _ _ _ _  => by kernel_rfl
abbrev k5 : Sk := [(1,.i .u64),(2,.x),(5,.v),(8,.i .u64),(9,.v),(15,.v),(16,.i .i64),(17,.i .i64),(44,.g [.i,.i]),(45,.i .i64),(50,.v),(51,.i .i64),(52,.i .i64)]
noncomputable def o10 := ob Tryd.f63 [.r,.r,.l,.r,.l,.l,.r,.r,.l,.l,.r,.r,.r,.l,.r,.l,.l,.r,.l,.l,.r,.l,.l,.r,.r,.l,.l,.r,.r,.l,.l,.r,.r,.r]
def B10 (P : PT) (N2 : NTy k1 Pr) (N5 : NTy k3 Pr) (N7 : NTy k4 Pr) (N9 : NTy k5 Pr) (x1 : Int) (x2 : Nat) (x5 : Value) (x8 : Int) (x9 x15 : Value) (x16 x17 x44a x44b x45 : Int) (x50 : Value) (x51 x52 : Int) (H : AHeap) : Prop :=
  N9 x1 x2 x5 x8 x9 x15 x16 x17 x44a x44b x45 x50 x51 (IntKind.i64.wrap (x52 + 1)) H
theorem q10 (P : PT) (N2 : NTy k1 Pr) (N5 : NTy k3 Pr) (N7 : NTy k4 Pr) (N9 : NTy k5 Pr) : QB Tryd.prog T0 81 o10 (En 81 k5 N9) k5 (B10 P N2 N5 N7 N9) := fun _ _ _ _ _ _ _ _ _ _ _ _ _ _ _ _  => by kernel_rfl
abbrev k6 : Sk := [(1,.i .u64),(2,.x),(5,.v),(8,.i .u64),(9,.v),(13,.i .i64),(15,.v),(16,.i .i64),(17,.i .i64),(44,.g [.i,.i]),(45,.i .i64),(50,.v),(51,.i .i64),(52,.i .i64)]
noncomputable def o11 := ob Tryd.f63 [.r,.r,.l,.r,.l,.l,.r,.r,.l,.l,.r,.r,.r,.l,.r,.l,.l,.r,.l,.l,.r,.l,.l,.r,.r,.l,.l,.r,.r,.l,.l,.r,.r,.l,.l,.r,.r,.l,.r]
def B11 (P : PT) (N2 : NTy k1 Pr) (N5 : NTy k3 Pr) (N7 : NTy k4 Pr) (N9 : NTy k5 Pr) (x1 : Int) (x2 : Nat) (x5 : Value) (x8 : Int) (x9 : Value) (x13 : Int) (x15 : Value) (x16 x17 x44a x44b x45 : Int) (x50 : Value) (x51 x52 : Int) (H : AHeap) : Prop :=
  newK H [(Value.int .i64 x13)] 2 (fun b1 H2 => apK T0 2 H2 x9 (Value.slice (some ⟨b1, 0, none⟩) 1 (1 + 1)) (fun v3 H4 => B10 P N2 N5 N7 N9 x1 x2 x5 x8 v3 x15 x16 x17 x44a x44b x45 x50 x51 x52 H4))
theorem q11 (P : PT) (N2 : NTy k1 Pr) (N5 : NTy k3 Pr) (N7 : NTy k4 Pr) (N9 : NTy k5 Pr) : QB Tryd.prog T0 81 o11 (En 81 k5 (B10 P N2 N5 N7 N9)) k6 (B11 P N2 N5 N7 N9) := fun _ _ _ _ _ _ _ _ _ _ _ _ _ _ _ _ _  => by kernel_rfl
noncomputable def o12 := ob Tryd.f63 [.r,.r,.l,.r,.l,.l,.r,.r,.l,.l,.r,.r,.r,.l,.r,.l,.l,.r,.l,.l,.r,.l,.l,.r,.r,.l,.l,.r,.r,.l,.l,.r,.r,.l,.l,.r,.r,.l,.l]
def B12 (P : PT) (N2 : NTy k1 Pr) (N5 : NTy k3 Pr) (N7 : NTy k4 Pr) (N9 : NTy k5 Pr) (x1 : Int) (x2 : Nat) (x5 : Value) (x8 : Int) (x9 : Value) (x13 : Int) (x15 : Value) (x16 x17 x44a x44b x45 : Int) (x50 : Value) (x51 x52 : Int) (H : AHeap) : Prop :=
  ((0 : Int) ≤ x13) ∧ (B11 P N2 N5 N7 N9 x1 x2 x5 (IntKind.u64.wrap (BitVec.ofInt 64 x8 ||| BitVec.ofInt 64 (IntKind.u64.wrap (1 * 2 ^ (min (Int.toNat x13) 64)))).toNat) x9 x13 x15 x16 x17 x44a x44b x45 x50 x51 x52 H)
theorem q12 (P : PT) (N2 : NTy k1 Pr) (N5 : NTy k3 Pr) (N7 : NTy k4 Pr) (N9 : NTy k5 Pr) : QB Tryd.prog T0 81 o12 (En 81 k6 (B11 P N2 N5 N7 N9)) k6 (B12 P N2 N5 N7 N9) := fun _ _ _ _ _ _ _ _ _ _ _ _ _ _ _ _ _  => by kernel_rfl
noncomputable def o13 := ob Tryd.f63 [.r,.r,.l,.r,.l,.l,.r,.r,.l,.l,.r,.r,.r,.l,.r,.l,.l,.r,.l,.l,.r,.l,.l,.r,.r,.l,.l,.r,.r,.l,.l,.r,.r,.l,.l,.r,.l]
def B13 (P : PT) (N2 : NTy k1 Pr) (N5 : NTy k3 Pr) (N7 : NTy k4 Pr) (N9 : NTy k5 Pr) (x1 : Int) (x2 : Nat) (x5 : Value) (x8 : Int) (x9 : Value) (x13 : Int) (x15 : Value) (x16 x17 x44a x44b x45 : Int) (x50 : Value) (x51 x52 : Int) (H : AHeap) : Prop :=
  AC Tryd.prog T0 33 [(Value.int .u64 x1), (Value.int .i64 x13)] H (fun v1 H2 => asB v1 (fun v3 => pif v3 (AC Tryd.prog T0 33 [(Value.int .u64 x8), (Value.int .i64 x13)] H2 (fun v4 H5 => asB v4 (fun v6 => pif (!v6) (B12 P N2 N5 N7 N9 x1 x2 x5 x8 x9 x13 x15 x16 x17 x44a x44b x45 x50 x51 x52 H5) (B10 P N2 N5 N7 N9 x1 x2 x5 x8 x9 x15 x16 x17 x44a x44b x45 x50 x51 x52 H5)))) (B10 P N2 N5 N7 N9 x1 x2 x5 x8 x9 x15 x16 x17 x44a x44b x45 x50 x51 x52 H2)))
theorem q13 (P : PT) (N2 : NTy k1 Pr) (N5 : NTy k3 Pr) (N7 : NTy k4 Pr) (N9 : NTy k5 Pr) : QB Tryd.prog T0 81 o13 (cnd 64 (En 81 k6 (B12 P N2 N5 N7 N9)) (En 81 k5 (B10 P N2 N5 N7 N9))) k6 (B13 P N2 N5 N7 N9) := fun _ _ _ _ _ _ _ _ _ _ _ _ _ _ _ _ _  => by kernel_rfl
noncomputable def o14 := ob Tryd.f63 [.r,.r,.l,.r,.l,.l,.r,.r,.l,.l,.r,.r,.r,.l,.r,.l,.l,.r,.l,.l,.r,.l,.l,.r,.r,.l,.l,.r,.r,.l,.l,.r,.r,.l,.l,.l]
def B14 (P : PT) (N2 : NTy k1 Pr) (N5 : NTy k3 Pr) (N7 : NTy k4 Pr) (N9 : NTy k5 Pr) (x1 : Int) (x2 : Nat) (x5 : Value) (x8 : Int) (x9 x15 : Value) (x16 x17 x44a x44b x45 : Int) (x50 : Value) (x51 x52 : Int) (H : AHeap) : Prop :=
  idxK x50 x52 1 (fun b1 o2 => ldI .i64 H b1 o2 (fun v3 => B13 P N2 N5 N7 N9 x1 x2 x5 x8 x9 v3 x15 x16 x17 x44a x44b x45 x50 x51 x52 H))
theorem q14 (P : PT) (N2 : NTy k1 Pr) (N5 : NTy k3 Pr) (N7 : NTy k4 Pr) (N9 : NTy k5 Pr) : QB Tryd.prog T0 81 o14 (En 81 k6 (B13 P N2 N5 N7 N9)) k5 (B14 P N2 N5 N7 N9) := fun _ _ _ _ _ _ _ _ _ _ _ _ _ _ _ _  => by kernel_rfl
noncomputable def o15 := ob Tryd.f63 [.r,.r,.l,.r,.l,.l,.r,.r,.l,.l,.r,.r,.r,.l,.r,.l,.l,.r,.l,.l,.r,.l,.l,.r,.r,.l,.l,.r,.r,.l,.l,.l]
def B15 (P : PT) (N2 : NTy k1 Pr) (N5 : NTy k3 Pr) (N7 : NTy k4 Pr) (N9 : NTy k5 Pr) (x1 : Int) (x2 : Nat) (x5 : Value) (x8 : Int) (x9 x15 : Value) (x16 x17 x44a x44b x45 : Int) (x50 : Value) (x51 x52 : Int) (H : AHeap) : Prop :=
  pif (decide ((x52 : Int) < x51)) (B14 P N2 N5 N7 N9 x1 x2 x5 x8 x9 x15 x16 x17 x44a x44b x45 x50 x51 x52 H) (B8 P N2 N5 N7 x1 x2 x5 x8 x9 x15 x16 x17 x44a x44b x45 H)
theorem q15 (P : PT) (N2 : NTy k1 Pr) (N5 : NTy k3 Pr) (N7 : NTy k4 Pr) (N9 : NTy k5 Pr) : QB Tryd.prog T0 81 o15 (cnd 53 (En 81 k5 (B14 P N2 N5 N7 N9)) (En 81 k4 (B8 P N2 N5 N7))) k5 (B15 P N2 N5 N7 N9) := fun _ _ _ _ _ _ _ _ _ _ _ _ _ _ _ _  => by kernel_rfl
def L9 (P : PT) (N2 : NTy k1 Pr) (N5 : NTy k3 Pr) (N7 : NTy k4 Pr) (x1 : Int) (x2 : Nat) (x5 : Value) (x8 : Int) (x9 x15 : Value) (x16 x17 x44a x44b x45 : Int) (x50 : Value) (x51 x52 : Int) (H : AHeap) : Prop :=
  ∃ (I : NTy k5 Pr) (μ : NTy k5 (AHeap → Nat)), I x1 x2 x5 x8 x9 x15 x16 x17 x44a x44b x45 x50 x51 x52 H ∧ ∀ y1 y2 y5 y8 y9 y15 y16 y17 y44a y44b y45 y50 y51 y52 G, I y1 y2 y5 y8 y9 y15 y16 y17 y44a y44b y45 y50 y51 y52 G → B15 P N2 N5 N7 (fun z1 z2 z5 z8 z9 z15 z16 z17 z44a z44b z45 z50 z51 z52 G' => I z1 z2 z5 z8 z9 z15 z16 z17 z44a z44b z45 z50 z51 z52 G' ∧ μ z1 z2 z5 z8 z9 z15 z16 z17 z44a z44b z45 z50 z51 z52 G' < μ y1 y2 y5 y8 y9 y15 y16 y17 y44a y44b y45 y50 y51 y52 G) y1 y2 y5 y8 y9 y15 y16 y17 y44a y44b y45 y50 y51 y52 G
theorem l9 (P : PT) (N2 : NTy k1 Pr) (N5 : NTy k3 Pr) (N7 : NTy k4 Pr) : LQ k5 (L9 P N2 N5 N7) (B15 P N2 N5 N7) := fun ⟨_,_,_,_,_,_,_,_,_,_,_,_,_,_,_⟩ _ ⟨I, μ, h0, hI⟩ => ⟨apT _ I, apT _ μ, h0, fun ⟨_,_,_,_,_,_,_,_,_,_,_,_,_,_,_⟩ _ h => hI _ _ _ _ _ _ _ _ _ _ _ _ _ _ _  h⟩
abbrev k7 : Sk := [(1,.i .u64),(2,.x),(5,.v),(8,.i .u64),(9,.v),(11,.i .i64),(15,.v),(16,.i .i64),(17,.i .i64),(44,.g [.i,.i]),(45,.i .i64)]
noncomputable def o16 := ob Tryd.f63 [.r,.r,.l,.r,.l,.l,.r,.r,.l,.l,.r,.r,.r,.l,.r,.l,.l,.r,.l,.l,.r,.l,.l,.r,.r,.l,.l,.r,.l]
def B16 (P : PT) (N2 : NTy k1 Pr) (N5 : NTy k3 Pr) (N7 : NTy k4 Pr) (x1 : Int) (x2 : Nat) (x5 : Value) (x8 : Int) (x9 : Value) (x11 : Int) (x15 : Value) (x16 x17 x44a x44b x45 : Int) (H : AHeap) : Prop :=
  ldI .i64 H x2 0 (fun v1 => ld1 H x2 1 (fun v2 => AC Tryd.prog T0 48 [(Value.agg ⟨[(Value.int .i64 v1), v2]⟩), (Value.int .i64 x11)] H (fun v3 H4 => lenK v3 (fun n6 => L9 P N2 N5 N7 x1 x2 x5 x8 x9 x15 x16 x17 x44a x44b x45 v3 (n6 : Int) 0 H4))))
theorem q16 (P : PT) (N2 : NTy k1 Pr) (N5 : NTy k3 Pr) (N7 : NTy k4 Pr) : QB Tryd.prog T0 81 o16 (En 81 k5 (L9 P N2 N5 N7)) k7 (B16 P N2 N5 N7) := fun _ _ _ _ _ _ _ _ _ _ _ _ _ _  => by kernel_rfl
noncomputable def o17 := ob Tryd.f63 [.r,.r,.l,.r,.l,.l,.r,.r,.l,.l,.r,.r,.r,.l,.r,.l,.l,.r,.l,.l,.r,.l,.l,.r,.r,.l,.l,.l]
def B17 (P : PT) (N2 : NTy k1 Pr) (N5 : NTy k3 Pr) (N7 : NTy k4 Pr) (x1 : Int) (x2 : Nat) (x5 : Value) (x8 : Int) (x9 x15 : Value) (x16 x17 x44a x44b x45 : Int) (H : AHeap) : Prop :=
  bndK x45 2 (atK [(Value.int .i64 x44a), (Value.int .i64 x44b)] (Int.toNat x45 * 1) (fun v1 => asI .i64 v1 (fun v2 => B16 P N2 N5 N7 x1 x2 x5 x8 x9 v2 x15 x16 x17 x44a x44b x45 H)))
theorem q17 (P : PT) (N2 : NTy k1 Pr) (N5 : NTy k3 Pr) (N7 : NTy k4 Pr) : QB Tryd.prog T0 81 o17 (En 81 k7 (B16 P N2 N5 N7)) k4 (B17 P N2 N5 N7) := fun _ _ _ _ _ _ _ _ _ _ _ _ _  => by kernel_rfl
noncomputable def o18 := ob Tryd.f63 [.r,.r,.l,.r,.l,.l,.r,.r,.l,.l,.r,.r,.r,.l,.r,.l,.l,.r,.l,.l,.r,.l,.l,.l]
def B18 (P : PT) (N2 : NTy k1 Pr) (N5 : NTy k3 Pr) (N7 : NTy k4 Pr) (x1 : Int) (x2 : Nat) (x5 : Value) (x8 : Int) (x9 x15 : Value) (x16 x17 x44a x44b x45 : Int) (H : AHeap) : Prop :=
  pif (decide ((x45 : Int) < 2)) (B17 P N2 N5 N7 x1 x2 x5 x8 x9 x15 x16 x17 x44a x44b x45 H) (B6 P N2 N5 x1 x2 x5 x8 x9 x15 x16 x17 H)
theorem q18 (P : PT) (N2 : NTy k1 Pr) (N5 : NTy k3 Pr) (N7 : NTy k4 Pr) : QB Tryd.prog T0 81 o18 (cnd 46 (En 81 k4 (B17 P N2 N5 N7)) (En 81 k3 (B6 P N2 N5))) k4 (B18 P N2 N5 N7) := fun _ _ _ _ _ _ _ _ _ _ _ _ _  => by kernel_rfl
def L7 (P : PT) (N2 : NTy k1 Pr) (N5 : NTy k3 Pr) (x1 : Int) (x2 : Nat) (x5 : Value) (x8 : Int) (x9 x15 : Value) (x16 x17 x44a x44b x45 : Int) (H : AHeap) : Prop :=
  ∃ (I : NTy k4 Pr) (μ : NTy k4 (AHeap → Nat)), I x1 x2 x5 x8 x9 x15 x16 x17 x44a x44b x45 H ∧ ∀ y1 y2 y5 y8 y9 y15 y16 y17 y44a y44b y45 G, I y1 y2 y5 y8 y9 y15 y16 y17 y44a y44b y45 G → B18 P N2 N5 (fun z1 z2 z5 z8 z9 z15 z16 z17 z44a z44b z45 G' => I z1 z2 z5 z8 z9 z15 z16 z17 z44a z44b z45 G' ∧ μ z1 z2 z5 z8 z9 z15 z16 z17 z44a z44b z45 G' < μ y1 y2 y5 y8 y9 y15 y16 y17 y44a y44b y45 G) y1 y2 y5 y8 y9 y15 y16 y17 y44a y44b y45 G
theorem l7 (P : PT) (N2 : NTy k1 Pr) (N5 : NTy k3 Pr) : LQ k4 (L7 P N2 N5) (B18 P N2 N5) := fun ⟨_,_,_,_,_,_,_,_,_,_,_,_⟩ _ ⟨I, μ, h0, hI⟩ => ⟨apT _ I, apT _ μ, h0, fun ⟨_,_,_,_,_,_,_,_,_,_,_,_⟩ _ h => hI _ _ _ _ _ _ _ _ _ _ _ _  h⟩
noncomputable def o19 := ob Tryd.f63 [.r,.r,.l,.r,.l,.l,.r,.r,.l,.l,.r,.r,.r,.l,.r,.l,.l,.r,.l,.l,.l]
def B19 (P : PT) (N2 : NTy k1 Pr) (N5 : NTy k3 Pr) (x1 : Int) (x2 : Nat) (x5 : Value) (x8 : Int) (x9 x15 : Value) (x16 x17 : Int) (H : AHeap) : Prop :=
  ld1 H x2 1 (fun v1 => idxK x9 0 1 (fun b2 o3 => ldI .i64 H b2 o3 (fun v4 => idxK v1 v4 2 (fun b5 o6 => ldI .i64 H b5 o6 (fun v7 => ldI .i64 H b5 (o6 + 1) (fun v8 => L7 P N2 N5 x1 x2 x5 x8 x9 x15 x16 x17 v7 v8 0 H))))))
theorem q19 (P : PT) (N2 : NTy k1 Pr) (N5 : NTy k3 Pr) : QD Tryd.prog T0 81 o19 [(0, false), (1, false), (2, false), (3, false), (4, false), (5, false), (6, false), (7, false)] (En 81 k4 (L7 P N2 N5)) k3 (B19 P N2 N5) := fun _ _ _ _ _ _ _ _ _ _  => by kernel_rfl
noncomputable def o20 := ob Tryd.f63 [.r,.r,.l,.r,.l,.l,.r,.r,.l,.l,.r,.r,.r,.l,.r,.l,.l,.l,.l]
def B20 (P : PT) (N2 : NTy k1 Pr) (N5 : NTy k3 Pr) (x1 : Int) (x2 : Nat) (x5 : Value) (x8 : Int) (x9 x15 : Value) (x16 x17 : Int) (H : AHeap) : Prop :=
  lenK x9 (fun n1 => pif (decide (((n1 : Int) : Int) > 0)) (B19 P N2 N5 x1 x2 x5 x8 x9 x15 x16 x17 H) (B4 P N2 x1 x2 x5 x8 x15 x16 x17 H))
theorem q20 (P : PT) (N2 : NTy k1 Pr) (N5 : NTy k3 Pr) : QB Tryd.prog T0 81 o20 (cnd 35 (En 81 k3 (B19 P N2 N5)) (En 81 k2 (B4 P N2))) k3 (B20 P N2 N5) := fun _ _ _ _ _ _ _ _ _ _  => by kernel_rfl
def L5 (P : PT) (N2 : NTy k1 Pr) (x1 : Int) (x2 : Nat) (x5 : Value) (x8 : Int) (x9 x15 : Value) (x16 x17 : Int) (H : AHeap) : Prop :=
  ∃ (I : NTy k3 Pr) (μ : NTy k3 (AHeap → Nat)), I x1 x2 x5 x8 x9 x15 x16 x17 H ∧ ∀ y1 y2 y5 y8 y9 y15 y16 y17 G, I y1 y2 y5 y8 y9 y15 y16 y17 G → B20 P N2 (fun z1 z2 z5 z8 z9 z15 z16 z17 G' => I z1 z2 z5 z8 z9 z15 z16 z17 G' ∧ μ z1 z2 z5 z8 z9 z15 z16 z17 G' < μ y1 y2 y5 y8 y9 y15 y16 y17 G) y1 y2 y5 y8 y9 y15 y16 y17 G
theorem l5 (P : PT) (N2 : NTy k1 Pr) : LQ k3 (L5 P N2) (B20 P N2) := fun ⟨_,_,_,_,_,_,_,_,_⟩ _ ⟨I, μ, h0, hI⟩ => ⟨apT _ I, apT _ μ, h0, fun ⟨_,_,_,_,_,_,_,_,_⟩ _ h => hI _ _ _ _ _ _ _ _ _  h⟩
abbrev k8 : Sk := [(1,.i .u64),(2,.x),(5,.v),(7,.x),(8,.i .u64),(15,.v),(16,.i .i64),(17,.i .i64)]
noncomputable def o21 := ob Tryd.f63 [.r,.r,.l,.r,.l,.l,.r,.r,.l,.l,.r,.r,.r,.l,.l]
def B21 (P : PT) (N2 : NTy k1 Pr) (x1 : Int) (x2 : Nat) (x5 : Value) (x7 : Nat) (x8 : Int) (x15 : Value) (x16 x17 : Int) (H : AHeap) : Prop :=
  ldI .i64 H x7 0 (fun v1 => newK H [(Value.int .i64 v1)] 2 (fun b2 H3 => L5 P N2 x1 x2 x5 x8 (Value.slice (some ⟨b2, 0, none⟩) 1 (1 + 1)) x15 x16 x17 H3))
theorem q21 (P : PT) (N2 : NTy k1 Pr) : QB Tryd.prog T0 81 o21 (En 81 k3 (L5 P N2)) k8 (B21 P N2) := fun _ _ _ _ _ _ _ _ _ _  => by kernel_rfl
abbrev k9 : Sk := [(1,.i .u64),(2,.x),(5,.v),(7,.x),(15,.v),(16,.i .i64),(17,.i .i64)]
noncomputable def o22 := ob Tryd.f63 [.r,.r,.l,.r,.l,.l,.r,.r,.l,.l,.r,.r,.l]
def B22 (P : PT) (N2 : NTy k1 Pr) (x1 : Int) (x2 : Nat) (x5 : Value) (x7 : Nat) (x15 : Value) (x16 x17 : Int) (H : AHeap) : Prop :=
  ldI .i64 H x7 0 (fun v1 => ((0 : Int) ≤ v1) ∧ (B21 P N2 x1 x2 x5 x7 (IntKind.u64.wrap (1 * 2 ^ (min (Int.toNat v1) 64))) x15 x16 x17 H))
theorem q22 (P : PT) (N2 : NTy k1 Pr) : QB Tryd.prog T0 81 o22 (En 81 k8 (B21 P N2)) k9 (B22 P N2) := fun _ _ _ _ _ _ _ _ _  => by kernel_rfl
noncomputable def o23 := ob Tryd.f63 [.r,.r,.l,.r,.l,.l,.r,.r,.l,.l,.r,.l,.l]
def B23 (P : PT) (N2 : NTy k1 Pr) (x1 : Int) (x2 : Nat) (x5 : Value) (x7 : Nat) (x15 : Value) (x16 x17 : Int) (H : AHeap) : Prop :=
  lenK x5 (fun n1 => pif (decide (((n1 : Int) : Int) > 0)) (AC Tryd.prog T0 70 [x5, (Value.func (.func 71) ⟨[]⟩ ⟨[(Value.pointer (some ⟨x7, 0, none⟩))]⟩)] H (fun v2 H3 => asB v2 (fun v4 => pif v4 (B3 P N2 x1 x2 x5 x15 x16 x17 H3) (B22 P N2 x1 x2 x5 x7 x15 x16 x17 H3)))) (B22 P N2 x1 x2 x5 x7 x15 x16 x17 H))
theorem q23 (P : PT) (N2 : NTy k1 Pr) : QB Tryd.prog T0 81 o23 (cnd 28 (En 81 k1 (B3 P N2)) (En 81 k9 (B22 P N2))) k9 (B23 P N2) := fun _ _ _ _ _ _ _ _ _  => by kernel_rfl
noncomputable def o24 := ob Tryd.f63 [.r,.r,.l,.r,.l,.l,.r,.r,.l,.l,.l]
def B24 (P : PT) (N2 : NTy k1 Pr) (x1 : Int) (x2 : Nat) (x5 x15 : Value) (x16 x17 : Int) (H : AHeap) : Prop :=
  idxK x15 x17 1 (fun b1 o2 => ldI .i64 H b1 o2 (fun v3 => newK H [(Value.int .i64 0)] 2 (fun b4 H5 => stK H5 b4 0 [(Value.int .i64 v3)] (fun H6 => B23 P N2 x1 x2 x5 b4 x15 x16 x17 H6))))
theorem q24 (P : PT) (N2 : NTy k1 Pr) : QB Tryd.prog T0 81 o24 (En 81 k9 (B23 P N2)) k1 (B24 P N2) := fun _ _ _ _ _ _ _ _  => by kernel_rfl
noncomputable def o25 := ob Tryd.f63 [.r,.r,.l,.r,.l,.l,.l]
def B25 (P : PT) (N2 : NTy k1 Pr) (x1 : Int) (x2 : Nat) (x5 x15 : Value) (x16 x17 : Int) (H : AHeap) : Prop :=
  pif (decide ((x17 : Int) < x16)) (B24 P N2 x1 x2 x5 x15 x16 x17 H) (B1 P x5 H)
theorem q25 (P : PT) (N2 : NTy k1 Pr) : QB Tryd.prog T0 81 o25 (cnd 18 (En 81 k1 (B24 P N2)) (En 81 k0 (B1 P))) k1 (B25 P N2) := fun _ _ _ _ _ _ _ _  => by kernel_rfl
def L2 (P : PT) (x1 : Int) (x2 : Nat) (x5 x15 : Value) (x16 x17 : Int) (H : AHeap) : Prop :=
  ∃ (I : NTy k1 Pr) (μ : NTy k1 (AHeap → Nat)), I x1 x2 x5 x15 x16 x17 H ∧ ∀ y1 y2 y5 y15 y16 y17 G, I y1 y2 y5 y15 y16 y17 G → B25 P (fun z1 z2 z5 z15 z16 z17 G' => I z1 z2 z5 z15 z16 z17 G' ∧ μ z1 z2 z5 z15 z16 z17 G' < μ y1 y2 y5 y15 y16 y17 G) y1 y2 y5 y15 y16 y17 G
theorem l2 (P : PT) : LQ k1 (L2 P) (B25 P) := fun ⟨_,_,_,_,_,_,_⟩ _ ⟨I, μ, h0, hI⟩ => ⟨apT _ I, apT _ μ, h0, fun ⟨_,_,_,_,_,_,_⟩ _ h => hI _ _ _ _ _ _ _  h⟩
abbrev k10 : Sk := [(1,.i .u64),(2,.x),(5,.v)]
noncomputable def o26 := ob Tryd.f63 [.r,.r,.l,.l]
def B26 (P : PT) (x1 : Int) (x2 : Nat) (x5 : Value) (H : AHeap) : Prop :=
  AC Tryd.prog T0 19 [(Value.int .u64 x1)] H (fun v1 H2 => lenK v1 (fun n4 => L2 P x1 x2 x5 v1 (n4 : Int) 0 H2))
theorem q26 (P : PT) : QB Tryd.prog T0 81 o26 (En 81 k1 (L2 P)) k10 (B26 P) := fun _ _ _ _ _  => by kernel_rfl
abbrev k11 : Sk := [(1,.i .u64),(2,.x)]
noncomputable def o27 := ob Tryd.f63 [.r,.l]
def B27 (P : PT) (x1 : Int) (x2 : Nat) (H : AHeap) : Prop :=
  B26 P x1 x2 (Value.slice none 0 0) H
theorem q27 (P : PT) : QB Tryd.prog T0 81 o27 (En 81 k10 (B26 P)) k11 (B27 P) := fun _ _ _ _  => by kernel_rfl
abbrev k12 : Sk := [(0,.g [.i,.v]),(1,.i .u64)]
noncomputable def o28 := ob Tryd.f63 [.l]
def B28 (P : PT) (x0a : Int) (x0b : Value) (x1 : Int) (H : AHeap) : Prop :=
  newK H [(Value.int .i64 x0a), x0b] 31 (fun b1 H2 => B27 P x1 b1 H2)
theorem q28 (P : PT) : QB Tryd.prog T0 81 o28 (En 81 k11 (B27 P)) k12 (B28 P) := fun _ _ _ _ _  => by kernel_rfl
noncomputable def code : Code := (.seq (.region 0 ⟨o28⟩ false) (.seq (.region 1 ⟨o27⟩ false) (.seq (.seq (.region 2 ⟨o26⟩ false) (.block 0 (.loop (.seq (.region 3 ⟨o25⟩ false) (.seq (.cond (.tmp 18) .skip (.exit 0)) (.seq (.block 1 (.seq (.region 4 ⟨o24⟩ false) (.seq (.seq (.region 5 ⟨o23⟩ false) (.cond (.tmp 28) (.exit 1) .skip)) (.seq (.region 6 ⟨o22⟩ false) (.seq (.seq (.region 7 ⟨o21⟩ false) (.block 2 (.loop (.seq (.seq (.region 8 ⟨o20⟩ false) (.cond (.tmp 35) .skip (.exit 2))) (.seq (.block 3 (.seq (.region 10 ⟨o19⟩ true) (.block 4 (.loop (.seq (.region 11 ⟨o18⟩ false) (.seq (.cond (.tmp 46) .skip (.exit 4)) (.seq (.block 5 (.seq (.region 12 ⟨o17⟩ false) (.seq (.region 13 ⟨o16⟩ false) (.block 6 (.loop (.seq (.region 14 ⟨o15⟩ false) (.seq (.cond (.tmp 53) .skip (.exit 6)) (.seq (.block 7 (.seq (.region 15 ⟨o14⟩ false) (.seq (.region 16 ⟨o13⟩ false) (.cond (.tmp 64) (.seq (.region 17 ⟨o12⟩ false) (.region 18 ⟨o11⟩ false)) .skip)))) (.region 19 ⟨o10⟩ false))))))))) (.region 20 ⟨o8⟩ false)))))))) (.region 9 ⟨o6⟩ false)))))) (.region 21 ⟨o4⟩ false)))))) (.region 22 ⟨o3⟩ false))))))) (.seq (.region 23 ⟨o1⟩ false) .ret))))
theorem body : Tryd.f63.body = some code := by kernel_rfl
theorem main (P : PT) : ∀ env H, (En 81 k12 (B28 P)) env H → AW Tryd.prog T0 code env H (mkQ (ret P) (fun _ _ _ => False) (ret P)) :=
  (r_seq (rB T0_ok (q28 P)) (r_seq (rB T0_ok (q27 P)) (r_seq (r_seq (rB T0_ok (q26 P)) (r_block (rL (l2 P) (fun N2 => (r_seq (rB T0_ok (q25 P N2)) (r_seq (r_cond rfl r_skip (r_exit (fun _ _ h => h))) (r_seq (r_block (r_seq (rB T0_ok (q24 P N2)) (r_seq (r_seq (rB T0_ok (q23 P N2)) (r_cond rfl (r_exit (fun _ _ h => h)) r_skip)) (r_seq (rB T0_ok (q22 P N2)) (r_seq (r_seq (rB T0_ok (q21 P N2)) (r_block (rL (l5 P N2) (fun N5 => (r_seq (r_seq (rB T0_ok (q20 P N2 N5)) (r_cond rfl r_skip (r_exit (fun _ _ h => h)))) (r_seq (r_block (r_seq (rD T0_ok mixed [(0, false), (1, false), (2, false), (3, false), (4, false), (5, false), (6, false), (7, false)] (by kernel_rfl) (q19 P N2 N5)) (r_block (rL (l7 P N2 N5) (fun N7 => (r_seq (rB T0_ok (q18 P N2 N5 N7)) (r_seq (r_cond rfl r_skip (r_exit (fun _ _ h => h))) (r_seq (r_block (r_seq (rB T0_ok (q17 P N2 N5 N7)) (r_seq (rB T0_ok (q16 P N2 N5 N7)) (r_block (rL (l9 P N2 N5 N7) (fun N9 => (r_seq (rB T0_ok (q15 P N2 N5 N7 N9)) (r_seq (r_cond rfl r_skip (r_exit (fun _ _ h => h))) (r_seq (r_block (r_seq (rB T0_ok (q14 P N2 N5 N7 N9)) (r_seq (rB T0_ok (q13 P N2 N5 N7 N9)) (r_cond rfl (r_seq (rB T0_ok (q12 P N2 N5 N7 N9)) (rB T0_ok (q11 P N2 N5 N7 N9))) r_skip)))) (rB T0_ok (q10 P N2 N5 N7 N9))))))))))) (rB T0_ok (q8 P N2 N5 N7)))))))))) (rB T0_ok (q6 P N2 N5)))))))) (rB T0_ok (q4 P N2))))))) (rB T0_ok (q3 P N2))))))))) (r_seq (rB T0_ok (q1 P)) r_ret))))
theorem ac (P : PT) (x0a : Int) (x0b : Value) (x1 : Int) (H : AHeap) (h : B28 P x0a x0b x1 H) : AC Tryd.prog T0 63 [(Value.agg ⟨[(Value.int .i64 x0a), x0b]⟩), (Value.int .u64 x1)] H P :=
  r_fn T0_ok (c := code) (n := 81) Tryd.func63 body (by kernel_rfl) (main P) (En_mk (x0a, x0b, x1, ()) (by kernel_rfl) ⟨by kernel_rfl, by kernel_rfl, trivial⟩ h)

end F63
-- (loop.example/g01329/impl.Graph).every
namespace F64
noncomputable def ret (P : PT) : EP := retE T0 8 Tryd.f64 P
abbrev k0 : Sk := [(1,.x)]
noncomputable def o1 := ob Tryd.f64 [.r,.l]
def B1 (P : PT) (x1 : Nat) (H : AHeap) : Prop :=
  ld1 H x1 1 (fun v1 => lenK v1 (fun n2 => ((0 : Int) ≤ (n2 : Int)) ∧ (P (Value.int .u64 (IntKind.u64.wrap ((IntKind.u64.wrap (1 * 2 ^ (min (Int.toNat (n2 : Int)) 64))) - 1))) H)))
theorem q1 (P : PT) : QB Tryd.prog T0 8 o1 (ret P) k0 (B1 P) := fun _ _ _  => by kernel_rfl
abbrev k1 : Sk := [(0,.g [.i,.v])]
noncomputable def o2 := ob Tryd.f64 [.l]
def B2 (P : PT) (x0a : Int) (x0b : Value) (H : AHeap) : Prop :=
  newK H [(Value.int .i64 x0a), x0b] 31 (fun b1 H2 => B1 P b1 H2)
theorem q2 (P : PT) : QB Tryd.prog T0 8 o2 (En 8 k0 (B1 P)) k1 (B2 P) := fun _ _ _ _  => by kernel_rfl
noncomputable def code : Code := (.seq (.region 0 ⟨o2⟩ false) (.seq (.region 1 ⟨o1⟩ false) .ret))
theorem body : Tryd.f64.body = some code := by kernel_rfl
theorem main (P : PT) : ∀ env H, (En 8 k1 (B2 P)) env H → AW Tryd.prog T0 code env H (mkQ (ret P) (fun _ _ _ => False) (ret P)) :=
  (r_seq (rB T0_ok (q2 P)) (r_seq (rB T0_ok (q1 P)) r_ret))
theorem ac (P : PT) (x0a : Int) (x0b : Value) (H : AHeap) (h : B2 P x0a x0b H) : AC Tryd.prog T0 64 [(Value.agg ⟨[(Value.int .i64 x0a), x0b]⟩)] H P :=
  r_fn T0_ok (c := code) (n := 8) Tryd.func64 body (by kernel_rfl) (main P) (En_mk (x0a, x0b, ()) (by kernel_rfl) ⟨by kernel_rfl, trivial⟩ h)

end F64
-- math/bits.OnesCount64
namespace F65
noncomputable def ret (P : PT) : EP := retE T0 35 Tryd.f65 P
abbrev k0 : Sk := [(0,.i .u64)]
noncomputable def o1 := ob Tryd.f65 [.r,.r,.r,.r,.r,.r,.r,.l]
def B1 (P : PT) (x0 : Int) (H : AHeap) : Prop :=
  P (Value.int .i64 (IntKind.i64.wrap (BitVec.ofInt 64 (IntKind.i64.wrap x0) &&& BitVec.ofInt 64 127).toNat)) H
theorem q1 (P : PT) : QB Tryd.prog T0 35 o1 (ret P) k0 (B1 P) := fun _ _ _  => by kernel_rfl
noncomputable def o2 := ob Tryd.f65 [.r,.r,.r,.r,.r,.r,.l]
def B2 (P : PT) (x0 : Int) (H : AHeap) : Prop :=
  ((0 : Int) ≤ 32) ∧ (B1 P (IntKind.u64.wrap (x0 + (Int.fdiv x0 (2 ^ (min (Int.toNat 32) 64))))) H)
theorem q2 (P : PT) : QB Tryd.prog T0 35 o2 (En 35 k0 (B1 P)) k0 (B2 P) := fun _ _ _  => by kernel_rfl
noncomputable def o3 := ob Tryd.f65 [.r,.r,.r,.r,.r,.l]
def B3 (P : PT) (x0 : Int) (H : AHeap) : Prop :=
  ((0 : Int) ≤ 16) ∧ (B2 P (IntKind.u64.wrap (x0 + (Int.fdiv x0 (2 ^ (min (Int.toNat 16) 64))))) H)
theorem q3 (P : PT) : QB Tryd.prog T0 35 o3 (En 35 k0 (B2 P)) k0 (B3 P) := fun _ _ _  => by kernel_rfl
noncomputable def o4 := ob Tryd.f65 [.r,.r,.r,.r,.l]
def B4 (P : PT) (x0 : Int) (H : AHeap) : Prop :=
  ((0 : Int) ≤ 8) ∧ (B3 P (IntKind.u64.wrap (x0 + (Int.fdiv x0 (2 ^ (min (Int.toNat 8) 64))))) H)
theorem q4 (P : PT) : QB Tryd.prog T0 35 o4 (En 35 k0 (B3 P)) k0 (B4 P) := fun _ _ _  => by kernel_rfl
noncomputable def o5 := ob Tryd.f65 [.r,.r,.r,.l]
def B5 (P : PT) (x0 : Int) (H : AHeap) : Prop :=
  ((0 : Int) ≤ 4) ∧ (B4 P (IntKind.u64.wrap (BitVec.ofInt 64 (IntKind.u64.wrap ((Int.fdiv x0 (2 ^ (min (Int.toNat 4) 64))) + x0)) &&& BitVec.ofInt 64 1085102592571150095).toNat) H)
theorem q5 (P : PT) : QB Tryd.prog T0 35 o5 (En 35 k0 (B4 P)) k0 (B5 P) := fun _ _ _  => by kernel_rfl
noncomputable def o6 := ob Tryd.f65 [.r,.r,.l]
def B6 (P : PT) (x0 : Int) (H : AHeap) : Prop :=
  ((0 : Int) ≤ 2) ∧ (B5 P (IntKind.u64.wrap ((IntKind.u64.wrap (BitVec.ofInt 64 (Int.fdiv x0 (2 ^ (min (Int.toNat 2) 64))) &&& BitVec.ofInt 64 3689348814741910323).toNat) + (IntKind.u64.wrap (BitVec.ofInt 64 x0 &&& BitVec.ofInt 64 3689348814741910323).toNat))) H)
theorem q6 (P : PT) : QB Tryd.prog T0 35 o6 (En 35 k0 (B5 P)) k0 (B6 P) := fun _ _ _  => by kernel_rfl
noncomputable def o7 := ob Tryd.f65 [.r,.l]
def B7 (P : PT) (x0 : Int) (H : AHeap) : Prop :=
  ((0 : Int) ≤ 1) ∧ (B6 P (IntKind.u64.wrap ((IntKind.u64.wrap (BitVec.ofInt 64 (Int.fdiv x0 (2 ^ (min (Int.toNat 1) 64))) &&& BitVec.ofInt 64 6148914691236517205).toNat) + (IntKind.u64.wrap (BitVec.ofInt 64 x0 &&& BitVec.ofInt 64 6148914691236517205).toNat))) H)
theorem q7 (P : PT) : QB Tryd.prog T0 35 o7 (En 35 k0 (B6 P)) k0 (B7 P) := fun _ _ _  => by kernel_rfl
noncomputable def o8 := ob Tryd.f65 [.l]
def B8 (P : PT) (x0 : Int) (H : AHeap) : Prop :=
  B7 P x0 H
theorem q8 (P : PT) : QB Tryd.prog T0 35 o8 (En 35 k0 (B7 P)) k0 (B8 P) := fun _ _ _  => by kernel_rfl
noncomputable def code : Code := (.seq (.region 0 ⟨o8⟩ false) (.seq (.region 1 ⟨o7⟩ false) (.seq (.region 2 ⟨o6⟩ false) (.seq (.region 3 ⟨o5⟩ false) (.seq (.region 4 ⟨o4⟩ false) (.seq (.region 5 ⟨o3⟩ false) (.seq (.region 6 ⟨o2⟩ false) (.seq (.region 7 ⟨o1⟩ false) .ret))))))))
theorem body : Tryd.f65.body = some code := by kernel_rfl
theorem main (P : PT) : ∀ env H, (En 35 k0 (B8 P)) env H → AW Tryd.prog T0 code env H (mkQ (ret P) (fun _ _ _ => False) (ret P)) :=
  (r_seq (rB T0_ok (q8 P)) (r_seq (rB T0_ok (q7 P)) (r_seq (rB T0_ok (q6 P)) (r_seq (rB T0_ok (q5 P)) (r_seq (rB T0_ok (q4 P)) (r_seq (rB T0_ok (q3 P)) (r_seq (rB T0_ok (q2 P)) (r_seq (rB T0_ok (q1 P)) r_ret))))))))
theorem ac (P : PT) (x0 : Int) (H : AHeap) (h : B8 P x0 H) : AC Tryd.prog T0 65 [(Value.int .u64 x0)] H P :=
  r_fn T0_ok (c := code) (n := 35) Tryd.func65 body (by kernel_rfl) (main P) (En_mk (x0, ()) (by kernel_rfl) ⟨by kernel_rfl, trivial⟩ h)

end F65
-- slices.IndexFunc[[]loop.example/g01329/impl.Edge,loop.example/g01329/impl.Edge]
namespace F66
noncomputable def ret (P : PT) : EP := retE T0 19 Tryd.f66 P
abbrev k0 : Sk := []
noncomputable def o1 := ob Tryd.f66 [.r,.r,.l]
def B1 (P : PT) (H : AHeap) : Prop :=
  P (Value.int .i64 (-1)) H
theorem q1 (P : PT) : QB Tryd.prog T0 19 o1 (ret P) k0 (B1 P) := fun _ _  => by kernel_rfl
abbrev k1 : Sk := [(0,.v),(1,.v),(7,.i .i64),(8,.i .i64)]
noncomputable def o3 := ob Tryd.f66 [.r,.l,.r,.l,.l,.r,.r,.r]
def B3 (P : PT) (N2 : NTy k1 Pr) (x0 x1 : Value) (x7 x8 : Int) (H : AHeap) : Prop :=
  N2 x0 x1 x7 (IntKind.i64.wrap (x8 + 1)) H
theorem q3 (P : PT) (N2 : NTy k1 Pr) : QB Tryd.prog T0 19 o3 (En 19 k1 N2) k1 (B3 P N2) := fun _ _ _ _ _ _  => by kernel_rfl
abbrev k2 : Sk := [(5,.i .i64)]
noncomputable def o4 := ob Tryd.f66 [.r,.l,.r,.l,.l,.r,.r,.l,.l,.r,.r,.l,.l]
def B4 (P : PT) (N2 : NTy k1 Pr) (x5 : Int) (H : AHeap) : Prop :=
  P (Value.int .i64 x5) H
theorem q4 (P : PT) (N2 : NTy k1 Pr) : QB Tryd.prog T0 19 o4 (ret P) k2 (B4 P N2) := fun _ _ _  => by kernel_rfl
abbrev k3 : Sk := [(0,.v),(1,.v),(5,.i .i64),(7,.i .i64),(8,.i .i64)]
noncomputable def o5 := ob Tryd.f66 [.r,.l,.r,.l,.l,.r,.r,.l,.l,.r,.l]
def B5 (P : PT) (N2 : NTy k1 Pr) (x0 x1 : Value) (x5 x7 x8 : Int) (H : AHeap) : Prop :=
  idxK x0 x5 2 (fun b1 o2 => ldI .i64 H b1 o2 (fun v3 => ldI .i64 H b1 (o2 + 1) (fun v4 => callV Tryd.prog T0 x1 [(Value.agg ⟨[(Value.int .i64 v3), (Value.int .i64 v4)]⟩)] H (fun v5 H6 => asB v5 (fun v7 => pif v7 (B4 P N2 x5 H6) (B3 P N2 x0 x1 x7 x8 H6))))))
theorem q5 (P : PT) (N2 : NTy k1 Pr) : QB Tryd.prog T0 19 o5 (cnd 16 (En 19 k2 (B4 P N2)) (En 19 k1 (B3 P N2))) k3 (B5 P N2) := fun _ _ _ _ _ _ _  => by kernel_rfl
noncomputable def o6 := ob Tryd.f66 [.r,.l,.r,.l,.l,.r,.r,.l,.l,.l]
def B6 (P : PT) (N2 : NTy k1 Pr) (x0 x1 : Value) (x7 x8 : Int) (H : AHeap) : Prop :=
  B5 P N2 x0 x1 x8 x7 x8 H
theorem q6 (P : PT) (N2 : NTy k1 Pr) : QB Tryd.prog T0 19 o6 (En 19 k3 (B5 P N2)) k1 (B6 P N2) := fun _ _ _ _ _ _  => by kernel_rfl
noncomputable def o7 := ob Tryd.f66 [.r,.l,.r,.l,.l,.l]
def B7 (P : PT) (N2 : NTy k1 Pr) (x0 x1 : Value) (x7 x8 : Int) (H : AHeap) : Prop :=
  pif (decide ((x8 : Int) < x7)) (B6 P N2 x0 x1 x7 x8 H) (B1 P H)
theorem q7 (P : PT) (N2 : NTy k1 Pr) : QB Tryd.prog T0 19 o7 (cnd 9 (En 19 k1 (B6 P N2)) (En 19 k0 (B1 P))) k1 (B7 P N2) := fun _ _ _ _ _ _  => by kernel_rfl
def L2 (P : PT) (x0 x1 : Value) (x7 x8 : Int) (H : AHeap) : Prop :=
  ∃ (I : NTy k1 Pr) (μ : NTy k1 (AHeap → Nat)), I x0 x1 x7 x8 H ∧ ∀ y0 y1 y7 y8 G, I y0 y1 y7 y8 G → B7 P (fun z0 z1 z7 z8 G' => I z0 z1 z7 z8 G' ∧ μ z0 z1 z7 z8 G' < μ y0 y1 y7 y8 G) y0 y1 y7 y8 G
theorem l2 (P : PT) : LQ k1 (L2 P) (B7 P) := fun ⟨_,_,_,_,_⟩ _ ⟨I, μ, h0, hI⟩ => ⟨apT _ I, apT _ μ, h0, fun ⟨_,_,_,_,_⟩ _ h => hI _ _ _ _ _  h⟩
abbrev k4 : Sk := [(0,.v),(1,.v)]
noncomputable def o8 := ob Tryd.f66 [.r,.l,.l]
def B8 (P : PT) (x0 x1 : Value) (H : AHeap) : Prop :=
  lenK x0 (fun n1 => L2 P x0 x1 (n1 : Int) 0 H)
theorem q8 (P : PT) : QB Tryd.prog T0 19 o8 (En 19 k1 (L2 P)) k4 (B8 P) := fun _ _ _ _  => by kernel_rfl
noncomputable def o9 := ob Tryd.f66 [.l]
def B9 (P : PT) (x0 x1 : Value) (H : AHeap) : Prop :=
  B8 P x0 x1 H
theorem q9 (P : PT) : QB Tryd.prog T0 19 o9 (En 19 k4 (B8 P)) k4 (B9 P) := fun _ _ _ _  => by kernel_rfl
noncomputable def code : Code := (.seq (.region 0 ⟨o9⟩ false) (.seq (.seq (.region 1 ⟨o8⟩ false) (.block 0 (.loop (.seq (.region 2 ⟨o7⟩ false) (.seq (.cond (.tmp 9) .skip (.exit 0)) (.seq (.block 1 (.seq (.region 3 ⟨o6⟩ false) (.seq (.region 4 ⟨o5⟩ false) (.cond (.tmp 16) (.seq (.region 5 ⟨o4⟩ false) .ret) .skip)))) (.region 6 ⟨o3⟩ false))))))) (.seq (.region 7 ⟨o1⟩ false) .ret)))
theorem body : Tryd.f66.body = some code := by kernel_rfl
theorem main (P : PT) : ∀ env H, (En 19 k4 (B9 P)) env H → AW Tryd.prog T0 code env H (mkQ (ret P) (fun _ _ _ => False) (ret P)) :=
  (r_seq (rB T0_ok (q9 P)) (r_seq (r_seq (rB T0_ok (q8 P)) (r_block (rL (l2 P) (fun N2 => (r_seq (rB T0_ok (q7 P N2)) (r_seq (r_cond rfl r_skip (r_exit (fun _ _ h => h))) (r_seq (r_block (r_seq (rB T0_ok (q6 P N2)) (r_seq (rB T0_ok (q5 P N2)) (r_cond rfl (r_seq (rB T0_ok (q4 P N2)) r_ret) r_skip)))) (rB T0_ok (q3 P N2))))))))) (r_seq (rB T0_ok (q1 P)) r_ret)))
theorem ac (P : PT) (x0 x1 : Value) (H : AHeap) (h : B9 P x0 x1 H) : AC Tryd.prog T0 66 [x0, x1] H P :=
  r_fn T0_ok (c := code) (n := 19) Tryd.func66 body (by kernel_rfl) (main P) (En_mk (x0, x1, ()) (by kernel_rfl) ⟨by kernel_rfl, by kernel_rfl, trivial⟩ h)

end F66
-- cmp.Compare[int64]
namespace F67
noncomputable def ret (P : PT) : EP := retE T0 20 Tryd.f67 P
abbrev k0 : Sk := []
noncomputable def o1 := ob Tryd.f67 [.r,.r,.r,.r,.r,.r,.r,.l]
def B1 (P : PT) (H : AHeap) : Prop :=
  P (Value.int .i64 0) H
theorem q1 (P : PT) : QB Tryd.prog T0 20 o1 (ret P) k0 (B1 P) := fun _ _  => by kernel_rfl
noncomputable def o2 := ob Tryd.f67 [.r,.r,.r,.r,.r,.r,.l,.r,.l,.l]
def B2 (P : PT) (H : AHeap) : Prop :=
  P (Value.int .i64 1) H
theorem q2 (P : PT) : QB Tryd.prog T0 20 o2 (ret P) k0 (B2 P) := fun _ _  => by kernel_rfl
abbrev k1 : Sk := [(0,.i .i64),(1,.i .i64)]
noncomputable def o3 := ob Tryd.f67 [.r,.r,.r,.r,.r,.r,.l,.l]
def B3 (P : PT) (x0 x1 : Int) (H : AHeap) : Prop :=
  pif (decide ((x0 : Int) > x1)) (B2 P H) (B1 P H)
theorem q3 (P : PT) : QB Tryd.prog T0 20 o3 (cnd 19 (En 20 k0 (B2 P)) (En 20 k0 (B1 P))) k1 (B3 P) := fun _ _ _ _  => by kernel_rfl
noncomputable def o4 := ob Tryd.f67 [.r,.r,.r,.r,.r,.l,.r,.l,.l]
def B4 (P : PT) (H : AHeap) : Prop :=
  P (Value.int .i64 (-1)) H
theorem q4 (P : PT) : QB Tryd.prog T0 20 o4 (ret P) k0 (B4 P) := fun _ _  => by kernel_rfl
noncomputable def o5 := ob Tryd.f67 [.r,.r,.r,.r,.r,.l,.l]
def B5 (P : PT) (x0 x1 : Int) (H : AHeap) : Prop :=
  pif (decide ((x0 : Int) < x1)) (B4 P H) (B3 P x0 x1 H)
theorem q5 (P : PT) : QB Tryd.prog T0 20 o5 (cnd 16 (En 20 k0 (B4 P)) (En 20 k1 (B3 P))) k1 (B5 P) := fun _ _ _ _  => by kernel_rfl
noncomputable def o6 := ob Tryd.f67 [.r,.r,.r,.r,.l,.r,.l,.l]
def B6 (P : PT) (H : AHeap) : Prop :=
  P (Value.int .i64 1) H
theorem q6 (P : PT) : QB Tryd.prog T0 20 o6 (ret P) k0 (B6 P) := fun _ _  => by kernel_rfl
abbrev k2 : Sk := [(0,.i .i64),(1,.i .i64),(6,.b)]
noncomputable def o7 := ob Tryd.f67 [.r,.r,.r,.r,.l,.l]
def B7 (P : PT) (x0 x1 : Int) (x6 : Bool) (H : AHeap) : Prop :=
  pif x6 (B6 P H) (B5 P x0 x1 H)
theorem q7 (P : PT) : QB Tryd.prog T0 20 o7 (cnd 13 (En 20 k0 (B6 P)) (En 20 k1 (B5 P))) k2 (B7 P) := fun _ _ _ _ _  => by kernel_rfl
noncomputable def o8 := ob Tryd.f67 [.r,.r,.r,.l,.r,.l,.r,.l]
def B8 (P : PT) (H : AHeap) : Prop :=
  P (Value.int .i64 (-1)) H
theorem q8 (P : PT) : QB Tryd.prog T0 20 o8 (ret P) k0 (B8 P) := fun _ _  => by kernel_rfl
noncomputable def o9 := ob Tryd.f67 [.r,.r,.r,.l,.r,.l,.l,.r,.l,.l]
def B9 (P : PT) (H : AHeap) : Prop :=
  P (Value.int .i64 0) H
theorem q9 (P : PT) : QB Tryd.prog T0 20 o9 (ret P) k0 (B9 P) := fun _ _  => by kernel_rfl
abbrev k3 : Sk := [(6,.b)]
noncomputable def o10 := ob Tryd.f67 [.r,.r,.r,.l,.r,.l,.l,.l]
def B10 (P : PT) (x6 : Bool) (H : AHeap) : Prop :=
  pif x6 (B9 P H) (B8 P H)
theorem q10 (P : PT) : QB Tryd.prog T0 20 o10 (cnd 12 (En 20 k0 (B9 P)) (En 20 k0 (B8 P))) k3 (B10 P) := fun _ _ _  => by kernel_rfl
abbrev k4 : Sk := [(0,.i .i64),(1,.i .i64),(5,.b),(6,.b)]
noncomputable def o11 := ob Tryd.f67 [.r,.r,.r,.l,.l]
def B11 (P : PT) (x0 x1 : Int) (x5 x6 : Bool) (H : AHeap) : Prop :=
  pif x5 (B10 P x6 H) (B7 P x0 x1 x6 H)
theorem q11 (P : PT) : QB Tryd.prog T0 20 o11 (cnd 11 (En 20 k3 (B10 P)) (En 20 k2 (B7 P))) k4 (B11 P) := fun _ _ _ _ _ _  => by kernel_rfl
abbrev k5 : Sk := [(0,.i .i64),(1,.i .i64),(5,.b)]
noncomputable def o12 := ob Tryd.f67 [.r,.r,.l]
def B12 (P : PT) (x0 x1 : Int) (x5 : Bool) (H : AHeap) : Prop :=
  AC Tryd.prog T0 72 [(Value.int .i64 x1)] H (fun v1 H2 => asB v1 (fun v3 => B11 P x0 x1 x5 v3 H2))
theorem q12 (P : PT) : QB Tryd.prog T0 20 o12 (En 20 k4 (B11 P)) k5 (B12 P) := fun _ _ _ _ _  => by kernel_rfl
noncomputable def o13 := ob Tryd.f67 [.r,.l]
def B13 (P : PT) (x0 x1 : Int) (H : AHeap) : Prop :=
  AC Tryd.prog T0 72 [(Value.int .i64 x0)] H (fun v1 H2 => asB v1 (fun v3 => B12 P x0 x1 v3 H2))
theorem q13 (P : PT) : QB Tryd.prog T0 20 o13 (En 20 k5 (B12 P)) k1 (B13 P) := fun _ _ _ _  => by kernel_rfl
noncomputable def o14 := ob Tryd.f67 [.l]
def B14 (P : PT) (x0 x1 : Int) (H : AHeap) : Prop :=
  B13 P x0 x1 H
theorem q14 (P : PT) : QB Tryd.prog T0 20 o14 (En 20 k1 (B13 P)) k1 (B14 P) := fun _ _ _ _  => by kernel_rfl
noncomputable def code : Code := (.seq (.region 0 ⟨o14⟩ false) (.seq (.region 1 ⟨o13⟩ false) (.seq (.region 2 ⟨o12⟩ false) (.seq (.seq (.region 3 ⟨o11⟩ false) (.cond (.tmp 11) (.seq (.seq (.region 4 ⟨o10⟩ false) (.cond (.tmp 12) (.seq (.region 5 ⟨o9⟩ false) .ret) .skip)) (.seq (.region 6 ⟨o8⟩ false) .ret)) .skip)) (.seq (.seq (.region 7 ⟨o7⟩ false) (.cond (.tmp 13) (.seq (.region 8 ⟨o6⟩ false) .ret) .skip)) (.seq (.seq (.region 9 ⟨o5⟩ false) (.cond (.tmp 16) (.seq (.region 10 ⟨o4⟩ false) .ret) .skip)) (.seq (.seq (.region 11 ⟨o3⟩ false) (.cond (.tmp 19) (.seq (.region 12 ⟨o2⟩ false) .ret) .skip)) (.seq (.region 13 ⟨o1⟩ false) .ret))))))))
theorem body : Tryd.f67.body = some code := by kernel_rfl
theorem main (P : PT) : ∀ env H, (En 20 k1 (B14 P)) env H → AW Tryd.prog T0 code env H (mkQ (ret P) (fun _ _ _ => False) (ret P)) :=
  (r_seq (rB T0_ok (q14 P)) (r_seq (rB T0_ok (q13 P)) (r_seq (rB T0_ok (q12 P)) (r_seq (r_seq (rB T0_ok (q11 P)) (r_cond rfl (r_seq (r_seq (rB T0_ok (q10 P)) (r_cond rfl (r_seq (rB T0_ok (q9 P)) r_ret) r_skip)) (r_seq (rB T0_ok (q8 P)) r_ret)) r_skip)) (r_seq (r_seq (rB T0_ok (q7 P)) (r_cond rfl (r_seq (rB T0_ok (q6 P)) r_ret) r_skip)) (r_seq (r_seq (rB T0_ok (q5 P)) (r_cond rfl (r_seq (rB T0_ok (q4 P)) r_ret) r_skip)) (r_seq (r_seq (rB T0_ok (q3 P)) (r_cond rfl (r_seq (rB T0_ok (q2 P)) r_ret) r_skip)) (r_seq (rB T0_ok (q1 P)) r_ret))))))))
theorem ac (P : PT) (x0 x1 : Int) (H : AHeap) (h : B14 P x0 x1 H) : AC Tryd.prog T0 67 [(Value.int .i64 x0), (Value.int .i64 x1)] H P :=
  r_fn T0_ok (c := code) (n := 20) Tryd.func67 body (by kernel_rfl) (main P) (En_mk (x0, x1, ()) (by kernel_rfl) ⟨by kernel_rfl, by kernel_rfl, trivial⟩ h)

end F67
-- slices.ContainsFunc[[]int,int]
namespace F68
noncomputable def ret (P : PT) : EP := retE T0 9 Tryd.f68 P
abbrev k0 : Sk := [(0,.v),(1,.v)]
noncomputable def o1 := ob Tryd.f68 [.r,.l]
def B1 (P : PT) (x0 x1 : Value) (H : AHeap) : Prop :=
  AC Tryd.prog T0 73 [x0, x1] H (fun v1 H2 => asI .i64 v1 (fun v3 => P (Value.bool (decide ((v3 : Int) ≥ 0))) H2))
theorem q1 (P : PT) : QB Tryd.prog T0 9 o1 (ret P) k0 (B1 P) := fun _ _ _ _  => by kernel_rfl
noncomputable def o2 := ob Tryd.f68 [.l]
def B2 (P : PT) (x0 x1 : Value) (H : AHeap) : Prop :=
  B1 P x0 x1 H
theorem q2 (P : PT) : QB Tryd.prog T0 9 o2 (En 9 k0 (B1 P)) k0 (B2 P) := fun _ _ _ _  => by kernel_rfl
noncomputable def code : Code := (.seq (.region 0 ⟨o2⟩ false) (.seq (.region 1 ⟨o1⟩ false) .ret))
theorem body : Tryd.f68.body = some code := by kernel_rfl
theorem main (P : PT) : ∀ env H, (En 9 k0 (B2 P)) env H → AW Tryd.prog T0 code env H (mkQ (ret P) (fun _ _ _ => False) (ret P)) :=
  (r_seq (rB T0_ok (q2 P)) (r_seq (rB T0_ok (q1 P)) r_ret))
theorem ac (P : PT) (x0 x1 : Value) (H : AHeap) (h : B2 P x0 x1 H) : AC Tryd.prog T0 68 [x0, x1] H P :=
  r_fn T0_ok (c := code) (n := 9) Tryd.func68 body (by kernel_rfl) (main P) (En_mk (x0, x1, ()) (by kernel_rfl) ⟨by kernel_rfl, by kernel_rfl, trivial⟩ h)

end F68
-- loop.example/g01329/impl.areAll[int]$1
namespace F69
noncomputable def ret (P : PT) : EP := retE T0 8 Tryd.f69 P
abbrev k0 : Sk := [(0,.i .i64),(1,.v)]
noncomputable def o1 := ob Tryd.f69 [.r,.l]
def B1 (P : PT) (x0 : Int) (x1 : Value) (H : AHeap) : Prop :=
  asP x1 (fun b1 o2 => ld1 H b1 o2 (fun v3 => callV Tryd.prog T0 v3 [(Value.int .i64 x0)] H (fun v4 H5 => asB v4 (fun v6 => P (Value.bool (!v6)) H5))))
theorem q1 (P : PT) : QB Tryd.prog T0 8 o1 (ret P) k0 (B1 P) := fun _ _ _ _  => by kernel_rfl
noncomputable def o2 := ob Tryd.f69 [.l]
def B2 (P : PT) (x0 : Int) (x1 : Value) (H : AHeap) : Prop :=
  B1 P x0 x1 H
theorem q2 (P : PT) : QB Tryd.prog T0 8 o2 (En 8 k0 (B1 P)) k0 (B2 P) := fun _ _ _ _  => by kernel_rfl
noncomputable def code : Code := (.seq (.region 0 ⟨o2⟩ false) (.seq (.region 1 ⟨o1⟩ false) .ret))
theorem body : Tryd.f69.body = some code := by kernel_rfl
theorem main (P : PT) : ∀ env H, (En 8 k0 (B2 P)) env H → AW Tryd.prog T0 code env H (mkQ (ret P) (fun _ _ _ => False) (ret P)) :=
  (r_seq (rB T0_ok (q2 P)) (r_seq (rB T0_ok (q1 P)) r_ret))
theorem ac (P : PT) (x0 : Int) (x1 : Value) (H : AHeap) (h : B2 P x0 x1 H) : AC Tryd.prog T0 69 [(Value.int .i64 x0), x1] H P :=
  r_fn T0_ok (c := code) (n := 8) Tryd.func69 body (by kernel_rfl) (main P) (En_mk (x0, x1, ()) (by kernel_rfl) ⟨by kernel_rfl, by kernel_rfl, trivial⟩ h)

end F69
-- slices.ContainsFunc[[]loop.example/g01329/impl.set,loop.example/g01329/impl.set]
namespace F70
noncomputable def ret (P : PT) : EP := retE T0 9 Tryd.f70 P
abbrev k0 : Sk := [(0,.v),(1,.v)]
noncomputable def o1 := ob Tryd.f70 [.r,.l]
def B1 (P : PT) (x0 x1 : Value) (H : AHeap) : Prop :=
  AC Tryd.prog T0 74 [x0, x1] H (fun v1 H2 => asI .i64 v1 (fun v3 => P (Value.bool (decide ((v3 : Int) ≥ 0))) H2))
theorem q1 (P : PT) : QB Tryd.prog T0 9 o1 (ret P) k0 (B1 P) := fun _ _ _ _  => by kernel_rfl
noncomputable def o2 := ob Tryd.f70 [.l]
def B2 (P : PT) (x0 x1 : Value) (H : AHeap) : Prop :=
  B1 P x0 x1 H
theorem q2 (P : PT) : QB Tryd.prog T0 9 o2 (En 9 k0 (B1 P)) k0 (B2 P) := fun _ _ _ _  => by kernel_rfl
noncomputable def code : Code := (.seq (.region 0 ⟨o2⟩ false) (.seq (.region 1 ⟨o1⟩ false) .ret))
theorem body : Tryd.f70.body = some code := by kernel_rfl
theorem main (P : PT) : ∀ env H, (En 9 k0 (B2 P)) env H → AW Tryd.prog T0 code env H (mkQ (ret P) (fun _ _ _ => False) (ret P)) :=
  (r_seq (rB T0_ok (q2 P)) (r_seq (rB T0_ok (q1 P)) r_ret))
theorem ac (P : PT) (x0 x1 : Value) (H : AHeap) (h : B2 P x0 x1 H) : AC Tryd.prog T0 70 [x0, x1] H P :=
  r_fn T0_ok (c := code) (n := 9) Tryd.func70 body (by kernel_rfl) (main P) (En_mk (x0, x1, ()) (by kernel_rfl) ⟨by kernel_rfl, by kernel_rfl, trivial⟩ h)

end F70
-- (loop.example/g01329/impl.Graph).cycles$1
namespace F71
noncomputable def ret (P : PT) : EP := retE T0 7 Tryd.f71 P
abbrev k0 : Sk := [(0,.i .u64),(1,.v)]
noncomputable def o1 := ob Tryd.f71 [.r,.l]
def B1 (P : PT) (x0 : Int) (x1 : Value) (H : AHeap) : Prop :=
  asP x1 (fun b1 o2 => ldI .i64 H b1 o2 (fun v3 => AC Tryd.prog T0 33 [(Value.int .u64 x0), (Value.int .i64 v3)] H (fun v4 H5 => asB v4 (fun v6 => P (Value.bool v6) H5))))
theorem q1 (P : PT) : QB Tryd.prog T0 7 o1 (ret P) k0 (B1 P) := fun _ _ _ _  => by kernel_rfl
noncomputable def o2 := ob Tryd.f71 [.l]
def B2 (P : PT) (x0 : Int) (x1 : Value) (H : AHeap) : Prop :=
  B1 P x0 x1 H
theorem q2 (P : PT) : QB Tryd.prog T0 7 o2 (En 7 k0 (B1 P)) k0 (B2 P) := fun _ _ _ _  => by kernel_rfl
noncomputable def code : Code := (.seq (.region 0 ⟨o2⟩ false) (.seq (.region 1 ⟨o1⟩ false) .ret))
theorem body : Tryd.f71.body = some code := by kernel_rfl
theorem main (P : PT) : ∀ env H, (En 7 k0 (B2 P)) env H → AW Tryd.prog T0 code env H (mkQ (ret P) (fun _ _ _ => False) (ret P)) :=
  (r_seq (rB T0_ok (q2 P)) (r_seq (rB T0_ok (q1 P)) r_ret))
theorem ac (P : PT) (x0 : Int) (x1 : Value) (H : AHeap) (h : B2 P x0 x1 H) : AC Tryd.prog T0 71 [(Value.int .u64 x0), x1] H P :=
  r_fn T0_ok (c := code) (n := 7) Tryd.func71 body (by kernel_rfl) (main P) (En_mk (x0, x1, ()) (by kernel_rfl) ⟨by kernel_rfl, by kernel_rfl, trivial⟩ h)

end F71
-- cmp.isNaN[int64]
namespace F72
noncomputable def ret (P : PT) : EP := retE T0 6 Tryd.f72 P
abbrev k0 : Sk := [(0,.i .i64)]
noncomputable def o1 := ob Tryd.f72 [.r,.l]
def B1 (P : PT) (x0 : Int) (H : AHeap) : Prop :=
  P (Value.bool ((x0 : Int) != x0)) H
theorem q1 (P : PT) : QB Tryd.prog T0 6 o1 (ret P) k0 (B1 P) := fun _ _ _  => by kernel_rfl
noncomputable def o2 := ob Tryd.f72 [.l]
def B2 (P : PT) (x0 : Int) (H : AHeap) : Prop :=
  B1 P x0 H
theorem q2 (P : PT) : QB Tryd.prog T0 6 o2 (En 6 k0 (B1 P)) k0 (B2 P) := fun _ _ _  => by kernel_rfl
noncomputable def code : Code := (.seq (.region 0 ⟨o2⟩ false) (.seq (.region 1 ⟨o1⟩ false) .ret))
theorem body : Tryd.f72.body = some code := by kernel_rfl
theorem main (P : PT) : ∀ env H, (En 6 k0 (B2 P)) env H → AW Tryd.prog T0 code env H (mkQ (ret P) (fun _ _ _ => False) (ret P)) :=
  (r_seq (rB T0_ok (q2 P)) (r_seq (rB T0_ok (q1 P)) r_ret))
theorem ac (P : PT) (x0 : Int) (H : AHeap) (h : B2 P x0 H) : AC Tryd.prog T0 72 [(Value.int .i64 x0)] H P :=
  r_fn T0_ok (c := code) (n := 6) Tryd.func72 body (by kernel_rfl) (main P) (En_mk (x0, ()) (by kernel_rfl) ⟨by kernel_rfl, trivial⟩ h)

end F72
-- slices.IndexFunc[[]int,int]
namespace F73
noncomputable def ret (P : PT) : EP := retE T0 19 Tryd.f73 P
abbrev k0 : Sk := []
noncomputable def o1 := ob Tryd.f73 [.r,.r,.l]
def B1 (P : PT) (H : AHeap) : Prop :=
  P (Value.int .i64 (-1)) H
theorem q1 (P : PT) : QB Tryd.prog T0 19 o1 (ret P) k0 (B1 P) := fun _ _  => by kernel_rfl
abbrev k1 : Sk := [(0,.v),(1,.v),(7,.i .i64),(8,.i .i64)]
noncomputable def o3 := ob Tryd.f73 [.r,.l,.r,.l,.l,.r,.r,.r]
def B3 (P : PT) (N2 : NTy k1 Pr) (x0 x1 : Value) (x7 x8 : Int) (H : AHeap) : Prop :=
  N2 x0 x1 x7 (IntKind.i64.wrap (x8 + 1)) H
theorem q3 (P : PT) (N2 : NTy k1 Pr) : QB Tryd.prog T0 19 o3 (En 19 k1 N2) k1 (B3 P N2) := fun _ _ _ _ _ _  => by kernel_rfl
abbrev k2 : Sk := [(5,.i .i64)]
noncomputable def o4 := ob Tryd.f73 [.r,.l,.r,.l,.l,.r,.r,.l,.l,.r,.r,.l,.l]
def B4 (P : PT) (N2 : NTy k1 Pr) (x5 : Int) (H : AHeap) : Prop :=
  P (Value.int .i64 x5) H
theorem q4 (P : PT) (N2 : NTy k1 Pr) : QB Tryd.prog T0 19 o4 (ret P) k2 (B4 P N2) := fun _ _ _  => by kernel_rfl
abbrev k3 : Sk := [(0,.v),(1,.v),(5,.i .i64),(7,.i .i64),(8,.i .i64)]
noncomputable def o5 := ob Tryd.f73 [.r,.l,.r,.l,.l,.r,.r,.l,.l,.r,.l]
def B5 (P : PT) (N2 : NTy k1 Pr) (x0 x1 : Value) (x5 x7 x8 : Int) (H : AHeap) : Prop :=
  idxK x0 x5 1 (fun b1 o2 => ldI .i64 H b1 o2 (fun v3 => callV Tryd.prog T0 x1 [(Value.int .i64 v3)] H (fun v4 H5 => asB v4 (fun v6 => pif v6 (B4 P N2 x5 H5) (B3 P N2 x0 x1 x7 x8 H5)))))
theorem q5 (P : PT) (N2 : NTy k1 Pr) : QB Tryd.prog T0 19 o5 (cnd 16 (En 19 k2 (B4 P N2)) (En 19 k1 (B3 P N2))) k3 (B5 P N2) := fun _ _ _ _ _ _ _  => by kernel_rfl
noncomputable def o6 := ob Tryd.f73 [.r,.l,.r,.l,.l,.r,.r,.l,.l,.l]
def B6 (P : PT) (N2 : NTy k1 Pr) (x0 x1 : Value) (x7 x8 : Int) (H : AHeap) : Prop :=
  B5 P N2 x0 x1 x8 x7 x8 H
theorem q6 (P : PT) (N2 : NTy k1 Pr) : QB Tryd.prog T0 19 o6 (En 19 k3 (B5 P N2)) k1 (B6 P N2) := fun _ _ _ _ _ _  => by kernel_rfl
noncomputable def o7 := ob Tryd.f73 [.r,.l,.r,.l,.l,.l]
def B7 (P : PT) (N2 : NTy k1 Pr) (x0 x1 : Value) (x7 x8 : Int) (H : AHeap) : Prop :=
  pif (decide ((x8 : Int) < x7)) (B6 P N2 x0 x1 x7 x8 H) (B1 P H)
theorem q7 (P : PT) (N2 : NTy k1 Pr) : QB Tryd.prog T0 19 o7 (cnd 9 (En 19 k1 (B6 P N2)) (En 19 k0 (B1 P))) k1 (B7 P N2) := fun _ _ _ _ _ _  => by kernel_rfl
def L2 (P : PT) (x0 x1 : Value) (x7 x8 : Int) (H : AHeap) : Prop :=
  ∃ (I : NTy k1 Pr) (μ : NTy k1 (AHeap → Nat)), I x0 x1 x7 x8 H ∧ ∀ y0 y1 y7 y8 G, I y0 y1 y7 y8 G → B7 P (fun z0 z1 z7 z8 G' => I z0 z1 z7 z8 G' ∧ μ z0 z1 z7 z8 G' < μ y0 y1 y7 y8 G) y0 y1 y7 y8 G
theorem l2 (P : PT) : LQ k1 (L2 P) (B7 P) := fun ⟨_,_,_,_,_⟩ _ ⟨I, μ, h0, hI⟩ => ⟨apT _ I, apT _ μ, h0, fun ⟨_,_,_,_,_⟩ _ h => hI _ _ _ _ _  h⟩
abbrev k4 : Sk := [(0,.v),(1,.v)]
noncomputable def o8 := ob Tryd.f73 [.r,.l,.l]
def B8 (P : PT) (x0 x1 : Value) (H : AHeap) : Prop :=
  lenK x0 (fun n1 => L2 P x0 x1 (n1 : Int) 0 H)
theorem q8 (P : PT) : QB Tryd.prog T0 19 o8 (En 19 k1 (L2 P)) k4 (B8 P) := fun _ _ _ _  => by kernel_rfl
noncomputable def o9 := ob Tryd.f73 [.l]
def B9 (P : PT) (x0 x1 : Value) (H : AHeap) : Prop :=
  B8 P x0 x1 H
theorem q9 (P : PT) : QB Tryd.prog T0 19 o9 (En 19 k4 (B8 P)) k4 (B9 P) := fun _ _ _ _  => by kernel_rfl
noncomputable def code : Code := (.seq (.region 0 ⟨o9⟩ false) (.seq (.seq (.region 1 ⟨o8⟩ false) (.block 0 (.loop (.seq (.region 2 ⟨o7⟩ false) (.seq (.cond (.tmp 9) .skip (.exit 0)) (.seq (.block 1 (.seq (.region 3 ⟨o6⟩ false) (.seq (.region 4 ⟨o5⟩ false) (.cond (.tmp 16) (.seq (.region 5 ⟨o4⟩ false) .ret) .skip)))) (.region 6 ⟨o3⟩ false))))))) (.seq (.region 7 ⟨o1⟩ false) .ret)))
theorem body : Tryd.f73.body = some code := by kernel_rfl
theorem main (P : PT) : ∀ env H, (En 19 k4 (B9 P)) env H → AW Tryd.prog T0 code env H (mkQ (ret P) (fun _ _ _ => False) (ret P)) :=
  (r_seq (rB T0_ok (q9 P)) (r_seq (r_seq (rB T0_ok (q8 P)) (r_block (rL (l2 P) (fun N2 => (r_seq (rB T0_ok (q7 P N2)) (r_seq (r_cond rfl r_skip (r_exit (fun _ _ h => h))) (r_seq (r_block (r_seq (rB T0_ok (q6 P N2)) (r_seq (rB T0_ok (q5 P N2)) (r_cond rfl (r_seq (rB T0_ok (q4 P N2)) r_ret) r_skip)))) (rB T0_ok (q3 P N2))))))))) (r_seq (rB T0_ok (q1 P)) r_ret)))
theorem ac (P : PT) (x0 x1 : Value) (H : AHeap) (h : B9 P x0 x1 H) : AC Tryd.prog T0 73 [x0, x1] H P :=
  r_fn T0_ok (c := code) (n := 19) Tryd.func73 body (by kernel_rfl) (main P) (En_mk (x0, x1, ()) (by kernel_rfl) ⟨by kernel_rfl, by kernel_rfl, trivial⟩ h)

end F73
-- slices.IndexFunc[[]loop.example/g01329/impl.set,loop.example/g01329/impl.set]
namespace F74
noncomputable def ret (P : PT) : EP := retE T0 19 Tryd.f74 P
abbrev k0 : Sk := []
noncomputable def o1 := ob Tryd.f74 [.r,.r,.l]
def B1 (P : PT) (H : AHeap) : Prop :=
  P (Value.int .i64 (-1)) H
theorem q1 (P : PT) : QB Tryd.prog T0 19 o1 (ret P) k0 (B1 P) := fun _ _  => by kernel_rfl
abbrev k1 : Sk := [(0,.v),(1,.v),(7,.i .i64),(8,.i .i64)]
noncomputable def o3 := ob Tryd.f74 [.r,.l,.r,.l,.l,.r,.r,.r]
def B3 (P : PT) (N2 : NTy k1 Pr) (x0 x1 : Value) (x7 x8 : Int) (H : AHeap) : Prop :=
  N2 x0 x1 x7 (IntKind.i64.wrap (x8 + 1)) H
theorem q3 (P : PT) (N2 : NTy k1 Pr) : QB Tryd.prog T0 19 o3 (En 19 k1 N2) k1 (B3 P N2) := fun _ _ _ _ _ _  => by kernel_rfl
abbrev k2 : Sk := [(5,.i .i64)]
noncomputable def o4 := ob Tryd.f74 [.r,.l,.r,.l,.l,.r,.r,.l,.l,.r,.r,.l,.l]
def B4 (P : PT) (N2 : NTy k1 Pr) (x5 : Int) (H : AHeap) : Prop :=
  P (Value.int .i64 x5) H
theorem q4 (P : PT) (N2 : NTy k1 Pr) : QB Tryd.prog T0 19 o4 (ret P) k2 (B4 P N2) := fun _ _ _  => by kernel_rfl
abbrev k3 : Sk := [(0,.v),(1,.v),(5,.i .i64),(7,.i .i64),(8,.i .i64)]
noncomputable def o5 := ob Tryd.f74 [.r,.l,.r,.l,.l,.r,.r,.l,.l,.r,.l]
def B5 (P : PT) (N2 : NTy k1 Pr) (x0 x1 : Value) (x5 x7 x8 : Int) (H : AHeap) : Prop :=
  idxK x0 x5 1 (fun b1 o2 => ldI .u64 H b1 o2 (fun v3 => callV Tryd.prog T0 x1 [(Value.int .u64 v3)] H (fun v4 H5 => asB v4 (fun v6 => pif v6 (B4 P N2 x5 H5) (B3 P N2 x0 x1 x7 x8 H5)))))
theorem q5 (P : PT) (N2 : NTy k1 Pr) : QB Tryd.prog T0 19 o5 (cnd 16 (En 19 k2 (B4 P N2)) (En 19 k1 (B3 P N2))) k3 (B5 P N2) := fun _ _ _ _ _ _ _  => by kernel_rfl
noncomputable def o6 := ob Tryd.f74 [.r,.l,.r,.l,.l,.r,.r,.l,.l,.l]
def B6 (P : PT) (N2 : NTy k1 Pr) (x0 x1 : Value) (x7 x8 : Int) (H : AHeap) : Prop :=
  B5 P N2 x0 x1 x8 x7 x8 H
theorem q6 (P : PT) (N2 : NTy k1 Pr) : QB Tryd.prog T0 19 o6 (En 19 k3 (B5 P N2)) k1 (B6 P N2) := fun _ _ _ _ _ _  => by kernel_rfl
noncomputable def o7 := ob Tryd.f74 [.r,.l,.r,.l,.l,.l]
def B7 (P : PT) (N2 : NTy k1 Pr) (x0 x1 : Value) (x7 x8 : Int) (H : AHeap) : Prop :=
  pif (decide ((x8 : Int) < x7)) (B6 P N2 x0 x1 x7 x8 H) (B1 P H)
theorem q7 (P : PT) (N2 : NTy k1 Pr) : QB Tryd.prog T0 19 o7 (cnd 9 (En 19 k1 (B6 P N2)) (En 19 k0 (B1 P))) k1 (B7 P N2) := fun _ _ _ _ _ _  => by kernel_rfl
def L2 (P : PT) (x0 x1 : Value) (x7 x8 : Int) (H : AHeap) : Prop :=
  ∃ (I : NTy k1 Pr) (μ : NTy k1 (AHeap → Nat)), I x0 x1 x7 x8 H ∧ ∀ y0 y1 y7 y8 G, I y0 y1 y7 y8 G → B7 P (fun z0 z1 z7 z8 G' => I z0 z1 z7 z8 G' ∧ μ z0 z1 z7 z8 G' < μ y0 y1 y7 y8 G) y0 y1 y7 y8 G
theorem l2 (P : PT) : LQ k1 (L2 P) (B7 P) := fun ⟨_,_,_,_,_⟩ _ ⟨I, μ, h0, hI⟩ => ⟨apT _ I, apT _ μ, h0, fun ⟨_,_,_,_,_⟩ _ h => hI _ _ _ _ _  h⟩
abbrev k4 : Sk := [(0,.v),(1,.v)]
noncomputable def o8 := ob Tryd.f74 [.r,.l,.l]
def B8 (P : PT) (x0 x1 : Value) (H : AHeap) : Prop :=
  lenK x0 (fun n1 => L2 P x0 x1 (n1 : Int) 0 H)
theorem q8 (P : PT) : QB Tryd.prog T0 19 o8 (En 19 k1 (L2 P)) k4 (B8 P) := fun _ _ _ _  => by kernel_rfl
noncomputable def o9 := ob Tryd.f74 [.l]
def B9 (P : PT) (x0 x1 : Value) (H : AHeap) : Prop :=
  B8 P x0 x1 H
theorem q9 (P : PT) : QB Tryd.prog T0 19 o9 (En 19 k4 (B8 P)) k4 (B9 P) := fun _ _ _ _  => by kernel_rfl
noncomputable def code : Code := (.seq (.region 0 ⟨o9⟩ false) (.seq (.seq (.region 1 ⟨o8⟩ false) (.block 0 (.loop (.seq (.region 2 ⟨o7⟩ false) (.seq (.cond (.tmp 9) .skip (.exit 0)) (.seq (.block 1 (.seq (.region 3 ⟨o6⟩ false) (.seq (.region 4 ⟨o5⟩ false) (.cond (.tmp 16) (.seq (.region 5 ⟨o4⟩ false) .ret) .skip)))) (.region 6 ⟨o3⟩ false))))))) (.seq (.region 7 ⟨o1⟩ false) .ret)))
theorem body : Tryd.f74.body = some code := by kernel_rfl
theorem main (P : PT) : ∀ env H, (En 19 k4 (B9 P)) env H → AW Tryd.prog T0 code env H (mkQ (ret P) (fun _ _ _ => False) (ret P)) :=
  (r_seq (rB T0_ok (q9 P)) (r_seq (r_seq (rB T0_ok (q8 P)) (r_block (rL (l2 P) (fun N2 => (r_seq (rB T0_ok (q7 P N2)) (r_seq (r_cond rfl r_skip (r_exit (fun _ _ h => h))) (r_seq (r_block (r_seq (rB T0_ok (q6 P N2)) (r_seq (rB T0_ok (q5 P N2)) (r_cond rfl (r_seq (rB T0_ok (q4 P N2)) r_ret) r_skip)))) (rB T0_ok (q3 P N2))))))))) (r_seq (rB T0_ok (q1 P)) r_ret)))
theorem ac (P : PT) (x0 x1 : Value) (H : AHeap) (h : B9 P x0 x1 H) : AC Tryd.prog T0 74 [x0, x1] H P :=
  r_fn T0_ok (c := code) (n := 19) Tryd.func74 body (by kernel_rfl) (main P) (En_mk (x0, x1, ()) (by kernel_rfl) ⟨by kernel_rfl, by kernel_rfl, trivial⟩ h)

end F74
end Go.Proofs
