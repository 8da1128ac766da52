import Derived.Test.YtkmjiikgkhhciaaGreatT
set_option linter.unusedVariables false
set_option maxRecDepth 100000
namespace Go.Proofs
open Go.Abs
-- (loop.example/g01329/impl.Graph).cycles
namespace F165
noncomputable def ret (P : PT) : EP := retE T0 81 Tryz.f165 P
abbrev k0 : Sk := [(5,.v)]
noncomputable def o1 := ob Tryz.f165 [.r,.r,.r,.l]
def B1 (P : PT) (x5 : Value) (H : AHeap) : Prop :=
  P x5 H
theorem q1 (P : PT) : QB Tryz.prog T0 81 o1 (ret P) k0 (B1 P) := fun _ _ _  => by kernel_rfl
abbrev k1 : Sk := [(1,.i .u64),(2,.x),(5,.v),(15,.v),(16,.i .i64),(17,.i .i64)]
noncomputable def o3 := ob Tryz.f165 [.r,.r,.l,.r,.l,.l,.r,.r,.r]
def B3 (P : PT) (N2 : NTy k1 Pr) (x1 : Int) (x2 : Nat) (x5 x15 : Value) (x16 x17 : Int) (H : AHeap) : Prop :=
  N2 x1 x2 x5 x15 x16 (IntKind.i64.wrap (x17 + 1)) H
theorem q3 (P : PT) (N2 : NTy k1 Pr) : QB Tryz.prog T0 81 o3 (En 81 k1 N2) k1 (B3 P N2) := fun _ _ _ _ _ _ _ _  => by kernel_rfl
abbrev k2 : Sk := [(1,.i .u64),(2,.x),(5,.v),(8,.i .u64),(15,.v),(16,.i .i64),(17,.i .i64)]
noncomputable def o4 := ob Tryz.f165 [.r,.r,.l,.r,.l,.l,.r,.r,.l,.l,.r,.r,.r,.r]
def B4 (P : PT) (N2 : NTy k1 Pr) (x1 : Int) (x2 : Nat) (x5 : Value) (x8 : Int) (x15 : Value) (x16 x17 : Int) (H : AHeap) : Prop :=
  newK H [(Value.int .u64 x8)] 81 (fun b1 H2 => apK T0 81 H2 x5 (Value.slice (some ⟨b1, 0, none⟩) 1 (1 + 1)) (fun v3 H4 => B3 P N2 x1 x2 v3 x15 x16 x17 H4))
theorem q4 (P : PT) (N2 : NTy k1 Pr) : QB Tryz.prog T0 81 o4 (En 81 k1 (B3 P N2)) k2 (B4 P N2) := fun _ _ _ _ _ _ _ _ _  => by kernel_rfl
abbrev k3 : Sk := [(1,.i .u64),(2,.x),(5,.v),(8,.i .u64),(9,.v),(15,.v),(16,.i .i64),(17,.i .i64)]
noncomputable def o6 := ob Tryz.f165 [.r,.r,.l,.r,.l,.l,.r,.r,.l,.l,.r,.r,.r,.l,.r,.l,.l,.r,.r]
def B6 (P : PT) (N2 : NTy k1 Pr) (N5 : NTy k3 Pr) (x1 : Int) (x2 : Nat) (x5 : Value) (x8 : Int) (x9 x15 : Value) (x16 x17 : Int) (H : AHeap) : Prop :=
  sliceK H 2 x9 (some (Value.int .i64 1)) none 1 (fun v1 => N5 x1 x2 x5 x8 v1 x15 x16 x17 H)
theorem q6 (P : PT) (N2 : NTy k1 Pr) (N5 : NTy k3 Pr) : QB Tryz.prog T0 81 o6 (En 81 k3 N5) k3 (B6 P N2 N5) := fun _ _ _ _ _ _ _ _ _ _  => by kernel_rfl
abbrev k4 : Sk := [(1,.i .u64),(2,.x),(5,.v),(8,.i .u64),(9,.v),(15,.v),(16,.i .i64),(17,.i .i64),(44,.g [.i,.i]),(45,.i .i64)]
noncomputable def o8 := ob Tryz.f165 [.r,.r,.l,.r,.l,.l,.r,.r,.l,.l,.r,.r,.r,.l,.r,.l,.l,.r,.l,.l,.r,.l,.l,.r,.r,.r]
def B8 (P : PT) (N2 : NTy k1 Pr) (N5 : NTy k3 Pr) (N7 : NTy k4 Pr) (x1 : Int) (x2 : Nat) (x5 : Value) (x8 : Int) (x9 x15 : Value) (x16 x17 x44a x44b x45 : Int) (H : AHeap) : Prop :=
  N7 x1 x2 x5 x8 x9 x15 x16 x17 x44a x44b (IntKind.i64.wrap (x45 + 1)) H
theorem q8 (P : PT) (N2 : NTy k1 Pr) (N5 : NTy k3 Pr) (N7 : NTy k4 Pr) : QB Tryz.prog T0 81 o8 (En 81 k4 N7) k4 (B8 P N2 N5 N7) := fun _ _ _ _ _ _ _ _ _ _ _ _ _  => by kernel_rfl
abbrev k5 : Sk := [(1,.i .u64),(2,.x),(5,.v),(8,.i .u64),(9,.v),(15,.v),(16,.i .i64),(17,.i .i64),(44,.g [.i,.i]),(45,.i .i64),(50,.v),(51,.i .i64),(52,.i .i64)]
noncomputable def o10 := ob Tryz.f165 [.r,.r,.l,.r,.l,.l,.r,.r,.l,.l,.r,.r,.r,.l,.r,.l,.l,.r,.l,.l,.r,.l,.l,.r,.r,.l,.l,.r,.r,.l,.l,.r,.r,.r]
def B10 (P : PT) (N2 : NTy k1 Pr) (N5 : NTy k3 Pr) (N7 : NTy k4 Pr) (N9 : NTy k5 Pr) (x1 : Int) (x2 : Nat) (x5 : Value) (x8 : Int) (x9 x15 : Value) (x16 x17 x44a x44b x45 : Int) (x50 : Value) (x51 x52 : Int) (H : AHeap) : Prop :=
  N9 x1 x2 x5 x8 x9 x15 x16 x17 x44a x44b x45 x50 x51 (IntKind.i64.wrap (x52 + 1)) H
theorem q10 (P : PT) (N2 : NTy k1 Pr) (N5 : NTy k3 Pr) (N7 : NTy k4 Pr) (N9 : NTy k5 Pr) : QB Tryz.prog T0 81 o10 (En 81 k5 N9) k5 (B10 P N2 N5 N7 N9) := fun _ _ _ _ _ _ _ _ _ _ _ _ _ _ _ _  => by kernel_rfl
abbrev k6 : Sk := [(1,.i .u64),(2,.x),(5,.v),(8,.i .u64),(9,.v),(13,.i .i64),(15,.v),(16,.i .i64),(17,.i .i64),(44,.g [.i,.i]),(45,.i .i64),(50,.v),(51,.i .i64),(52,.i .i64)]
noncomputable def o11 := ob Tryz.f165 [.r,.r,.l,.r,.l,.l,.r,.r,.l,.l,.r,.r,.r,.l,.r,.l,.l,.r,.l,.l,.r,.l,.l,.r,.r,.l,.l,.r,.r,.l,.l,.r,.r,.l,.l,.r,.r,.l,.r]
def B11 (P : PT) (N2 : NTy k1 Pr) (N5 : NTy k3 Pr) (N7 : NTy k4 Pr) (N9 : NTy k5 Pr) (x1 : Int) (x2 : Nat) (x5 : Value) (x8 : Int) (x9 : Value) (x13 : Int) (x15 : Value) (x16 x17 x44a x44b x45 : Int) (x50 : Value) (x51 x52 : Int) (H : AHeap) : Prop :=
  newK H [(Value.int .i64 x13)] 2 (fun b1 H2 => apK T0 2 H2 x9 (Value.slice (some ⟨b1, 0, none⟩) 1 (1 + 1)) (fun v3 H4 => B10 P N2 N5 N7 N9 x1 x2 x5 x8 v3 x15 x16 x17 x44a x44b x45 x50 x51 x52 H4))
theorem q11 (P : PT) (N2 : NTy k1 Pr) (N5 : NTy k3 Pr) (N7 : NTy k4 Pr) (N9 : NTy k5 Pr) : QB Tryz.prog T0 81 o11 (En 81 k5 (B10 P N2 N5 N7 N9)) k6 (B11 P N2 N5 N7 N9) := fun _ _ _ _ _ _ _ _ _ _ _ _ _ _ _ _ _  => by kernel_rfl
noncomputable def o12 := ob Tryz.f165 [.r,.r,.l,.r,.l,.l,.r,.r,.l,.l,.r,.r,.r,.l,.r,.l,.l,.r,.l,.l,.r,.l,.l,.r,.r,.l,.l,.r,.r,.l,.l,.r,.r,.l,.l,.r,.r,.l,.l]
def B12 (P : PT) (N2 : NTy k1 Pr) (N5 : NTy k3 Pr) (N7 : NTy k4 Pr) (N9 : NTy k5 Pr) (x1 : Int) (x2 : Nat) (x5 : Value) (x8 : Int) (x9 : Value) (x13 : Int) (x15 : Value) (x16 x17 x44a x44b x45 : Int) (x50 : Value) (x51 x52 : Int) (H : AHeap) : Prop :=
  ((0 : Int) ≤ x13) ∧ (B11 P N2 N5 N7 N9 x1 x2 x5 (IntKind.u64.wrap (BitVec.ofInt 64 x8 ||| BitVec.ofInt 64 (IntKind.u64.wrap (1 * 2 ^ (min (Int.toNat x13) 64)))).toNat) x9 x13 x15 x16 x17 x44a x44b x45 x50 x51 x52 H)
theorem q12 (P : PT) (N2 : NTy k1 Pr) (N5 : NTy k3 Pr) (N7 : NTy k4 Pr) (N9 : NTy k5 Pr) : QB Tryz.prog T0 81 o12 (En 81 k6 (B11 P N2 N5 N7 N9)) k6 (B12 P N2 N5 N7 N9) := fun _ _ _ _ _ _ _ _ _ _ _ _ _ _ _ _ _  => by kernel_rfl
noncomputable def o13 := ob Tryz.f165 [.r,.r,.l,.r,.l,.l,.r,.r,.l,.l,.r,.r,.r,.l,.r,.l,.l,.r,.l,.l,.r,.l,.l,.r,.r,.l,.l,.r,.r,.l,.l,.r,.r,.l,.l,.r,.l]
def B13 (P : PT) (N2 : NTy k1 Pr) (N5 : NTy k3 Pr) (N7 : NTy k4 Pr) (N9 : NTy k5 Pr) (x1 : Int) (x2 : Nat) (x5 : Value) (x8 : Int) (x9 : Value) (x13 : Int) (x15 : Value) (x16 x17 x44a x44b x45 : Int) (x50 : Value) (x51 x52 : Int) (H : AHeap) : Prop :=
  AC Tryz.prog T0 134 [(Value.int .u64 x1), (Value.int .i64 x13)] H (fun v1 H2 => asB v1 (fun v3 => pif v3 (AC Tryz.prog T0 134 [(Value.int .u64 x8), (Value.int .i64 x13)] H2 (fun v4 H5 => asB v4 (fun v6 => pif (!v6) (B12 P N2 N5 N7 N9 x1 x2 x5 x8 x9 x13 x15 x16 x17 x44a x44b x45 x50 x51 x52 H5) (B10 P N2 N5 N7 N9 x1 x2 x5 x8 x9 x15 x16 x17 x44a x44b x45 x50 x51 x52 H5)))) (B10 P N2 N5 N7 N9 x1 x2 x5 x8 x9 x15 x16 x17 x44a x44b x45 x50 x51 x52 H2)))
theorem q13 (P : PT) (N2 : NTy k1 Pr) (N5 : NTy k3 Pr) (N7 : NTy k4 Pr) (N9 : NTy k5 Pr) : QB Tryz.prog T0 81 o13 (cnd 64 (En 81 k6 (B12 P N2 N5 N7 N9)) (En 81 k5 (B10 P N2 N5 N7 N9))) k6 (B13 P N2 N5 N7 N9) := fun _ _ _ _ _ _ _ _ _ _ _ _ _ _ _ _ _  => by kernel_rfl
noncomputable def o14 := ob Tryz.f165 [.r,.r,.l,.r,.l,.l,.r,.r,.l,.l,.r,.r,.r,.l,.r,.l,.l,.r,.l,.l,.r,.l,.l,.r,.r,.l,.l,.r,.r,.l,.l,.r,.r,.l,.l,.l]
def B14 (P : PT) (N2 : NTy k1 Pr) (N5 : NTy k3 Pr) (N7 : NTy k4 Pr) (N9 : NTy k5 Pr) (x1 : Int) (x2 : Nat) (x5 : Value) (x8 : Int) (x9 x15 : Value) (x16 x17 x44a x44b x45 : Int) (x50 : Value) (x51 x52 : Int) (H : AHeap) : Prop :=
  idxK x50 x52 1 (fun b1 o2 => ldI .i64 H b1 o2 (fun v3 => B13 P N2 N5 N7 N9 x1 x2 x5 x8 x9 v3 x15 x16 x17 x44a x44b x45 x50 x51 x52 H))
theorem q14 (P : PT) (N2 : NTy k1 Pr) (N5 : NTy k3 Pr) (N7 : NTy k4 Pr) (N9 : NTy k5 Pr) : QB Tryz.prog T0 81 o14 (En 81 k6 (B13 P N2 N5 N7 N9)) k5 (B14 P N2 N5 N7 N9) := fun _ _ _ _ _ _ _ _ _ _ _ _ _ _ _ _  => by kernel_rfl
noncomputable def o15 := ob Tryz.f165 [.r,.r,.l,.r,.l,.l,.r,.r,.l,.l,.r,.r,.r,.l,.r,.l,.l,.r,.l,.l,.r,.l,.l,.r,.r,.l,.l,.r,.r,.l,.l,.l]
def B15 (P : PT) (N2 : NTy k1 Pr) (N5 : NTy k3 Pr) (N7 : NTy k4 Pr) (N9 : NTy k5 Pr) (x1 : Int) (x2 : Nat) (x5 : Value) (x8 : Int) (x9 x15 : Value) (x16 x17 x44a x44b x45 : Int) (x50 : Value) (x51 x52 : Int) (H : AHeap) : Prop :=
  pif (decide ((x52 : Int) < x51)) (B14 P N2 N5 N7 N9 x1 x2 x5 x8 x9 x15 x16 x17 x44a x44b x45 x50 x51 x52 H) (B8 P N2 N5 N7 x1 x2 x5 x8 x9 x15 x16 x17 x44a x44b x45 H)
theorem q15 (P : PT) (N2 : NTy k1 Pr) (N5 : NTy k3 Pr) (N7 : NTy k4 Pr) (N9 : NTy k5 Pr) : QB Tryz.prog T0 81 o15 (cnd 53 (En 81 k5 (B14 P N2 N5 N7 N9)) (En 81 k4 (B8 P N2 N5 N7))) k5 (B15 P N2 N5 N7 N9) := fun _ _ _ _ _ _ _ _ _ _ _ _ _ _ _ _  => by kernel_rfl
def L9 (P : PT) (N2 : NTy k1 Pr) (N5 : NTy k3 Pr) (N7 : NTy k4 Pr) (x1 : Int) (x2 : Nat) (x5 : Value) (x8 : Int) (x9 x15 : Value) (x16 x17 x44a x44b x45 : Int) (x50 : Value) (x51 x52 : Int) (H : AHeap) : Prop :=
  ∃ (I : NTy k5 Pr) (μ : NTy k5 (AHeap → Nat)), I x1 x2 x5 x8 x9 x15 x16 x17 x44a x44b x45 x50 x51 x52 H ∧ ∀ y1 y2 y5 y8 y9 y15 y16 y17 y44a y44b y45 y50 y51 y52 G, I y1 y2 y5 y8 y9 y15 y16 y17 y44a y44b y45 y50 y51 y52 G → B15 P N2 N5 N7 (fun z1 z2 z5 z8 z9 z15 z16 z17 z44a z44b z45 z50 z51 z52 G' => I z1 z2 z5 z8 z9 z15 z16 z17 z44a z44b z45 z50 z51 z52 G' ∧ μ z1 z2 z5 z8 z9 z15 z16 z17 z44a z44b z45 z50 z51 z52 G' < μ y1 y2 y5 y8 y9 y15 y16 y17 y44a y44b y45 y50 y51 y52 G) y1 y2 y5 y8 y9 y15 y16 y17 y44a y44b y45 y50 y51 y52 G
theorem l9 (P : PT) (N2 : NTy k1 Pr) (N5 : NTy k3 Pr) (N7 : NTy k4 Pr) : LQ k5 (L9 P N2 N5 N7) (B15 P N2 N5 N7) := fun ⟨_,_,_,_,_,_,_,_,_,_,_,_,_,_,_⟩ _ ⟨I, μ, h0, hI⟩ => ⟨apT _ I, apT _ μ, h0, fun ⟨_,_,_,_,_,_,_,_,_,_,_,_,_,_,_⟩ _ h => hI _ _ _ _ _ _ _ _ _ _ _ _ _ _ _  h⟩
abbrev k7 : Sk := [(1,.i .u64),(2,.x),(5,.v),(8,.i .u64),(9,.v),(11,.i .i64),(15,.v),(16,.i .i64),(17,.i .i64),(44,.g [.i,.i]),(45,.i .i64)]
noncomputable def o16 := ob Tryz.f165 [.r,.r,.l,.r,.l,.l,.r,.r,.l,.l,.r,.r,.r,.l,.r,.l,.l,.r,.l,.l,.r,.l,.l,.r,.r,.l,.l,.r,.l]
def B16 (P : PT) (N2 : NTy k1 Pr) (N5 : NTy k3 Pr) (N7 : NTy k4 Pr) (x1 : Int) (x2 : Nat) (x5 : Value) (x8 : Int) (x9 : Value) (x11 : Int) (x15 : Value) (x16 x17 x44a x44b x45 : Int) (H : AHeap) : Prop :=
  ldI .i64 H x2 0 (fun v1 => ld1 H x2 1 (fun v2 => AC Tryz.prog T0 161 [(Value.agg ⟨[(Value.int .i64 v1), v2]⟩), (Value.int .i64 x11)] H (fun v3 H4 => lenK v3 (fun n6 => L9 P N2 N5 N7 x1 x2 x5 x8 x9 x15 x16 x17 x44a x44b x45 v3 (n6 : Int) 0 H4))))
theorem q16 (P : PT) (N2 : NTy k1 Pr) (N5 : NTy k3 Pr) (N7 : NTy k4 Pr) : QB Tryz.prog T0 81 o16 (En 81 k5 (L9 P N2 N5 N7)) k7 (B16 P N2 N5 N7) := fun _ _ _ _ _ _ _ _ _ _ _ _ _ _  => by kernel_rfl
noncomputable def o17 := ob Tryz.f165 [.r,.r,.l,.r,.l,.l,.r,.r,.l,.l,.r,.r,.r,.l,.r,.l,.l,.r,.l,.l,.r,.l,.l,.r,.r,.l,.l,.l]
def B17 (P : PT) (N2 : NTy k1 Pr) (N5 : NTy k3 Pr) (N7 : NTy k4 Pr) (x1 : Int) (x2 : Nat) (x5 : Value) (x8 : Int) (x9 x15 : Value) (x16 x17 x44a x44b x45 : Int) (H : AHeap) : Prop :=
  bndK x45 2 (atK [(Value.int .i64 x44a), (Value.int .i64 x44b)] (Int.toNat x45 * 1) (fun v1 => asI .i64 v1 (fun v2 => B16 P N2 N5 N7 x1 x2 x5 x8 x9 v2 x15 x16 x17 x44a x44b x45 H)))
theorem q17 (P : PT) (N2 : NTy k1 Pr) (N5 : NTy k3 Pr) (N7 : NTy k4 Pr) : QB Tryz.prog T0 81 o17 (En 81 k7 (B16 P N2 N5 N7)) k4 (B17 P N2 N5 N7) := fun _ _ _ _ _ _ _ _ _ _ _ _ _  => by kernel_rfl
noncomputable def o18 := ob Tryz.f165 [.r,.r,.l,.r,.l,.l,.r,.r,.l,.l,.r,.r,.r,.l,.r,.l,.l,.r,.l,.l,.r,.l,.l,.l]
def B18 (P : PT) (N2 : NTy k1 Pr) (N5 : NTy k3 Pr) (N7 : NTy k4 Pr) (x1 : Int) (x2 : Nat) (x5 : Value) (x8 : Int) (x9 x15 : Value) (x16 x17 x44a x44b x45 : Int) (H : AHeap) : Prop :=
  pif (decide ((x45 : Int) < 2)) (B17 P N2 N5 N7 x1 x2 x5 x8 x9 x15 x16 x17 x44a x44b x45 H) (B6 P N2 N5 x1 x2 x5 x8 x9 x15 x16 x17 H)
theorem q18 (P : PT) (N2 : NTy k1 Pr) (N5 : NTy k3 Pr) (N7 : NTy k4 Pr) : QB Tryz.prog T0 81 o18 (cnd 46 (En 81 k4 (B17 P N2 N5 N7)) (En 81 k3 (B6 P N2 N5))) k4 (B18 P N2 N5 N7) := fun _ _ _ _ _ _ _ _ _ _ _ _ _  => by kernel_rfl
def L7 (P : PT) (N2 : NTy k1 Pr) (N5 : NTy k3 Pr) (x1 : Int) (x2 : Nat) (x5 : Value) (x8 : Int) (x9 x15 : Value) (x16 x17 x44a x44b x45 : Int) (H : AHeap) : Prop :=
  ∃ (I : NTy k4 Pr) (μ : NTy k4 (AHeap → Nat)), I x1 x2 x5 x8 x9 x15 x16 x17 x44a x44b x45 H ∧ ∀ y1 y2 y5 y8 y9 y15 y16 y17 y44a y44b y45 G, I y1 y2 y5 y8 y9 y15 y16 y17 y44a y44b y45 G → B18 P N2 N5 (fun z1 z2 z5 z8 z9 z15 z16 z17 z44a z44b z45 G' => I z1 z2 z5 z8 z9 z15 z16 z17 z44a z44b z45 G' ∧ μ z1 z2 z5 z8 z9 z15 z16 z17 z44a z44b z45 G' < μ y1 y2 y5 y8 y9 y15 y16 y17 y44a y44b y45 G) y1 y2 y5 y8 y9 y15 y16 y17 y44a y44b y45 G
theorem l7 (P : PT) (N2 : NTy k1 Pr) (N5 : NTy k3 Pr) : LQ k4 (L7 P N2 N5) (B18 P N2 N5) := fun ⟨_,_,_,_,_,_,_,_,_,_,_,_⟩ _ ⟨I, μ, h0, hI⟩ => ⟨apT _ I, apT _ μ, h0, fun ⟨_,_,_,_,_,_,_,_,_,_,_,_⟩ _ h => hI _ _ _ _ _ _ _ _ _ _ _ _  h⟩
noncomputable def o19 := ob Tryz.f165 [.r,.r,.l,.r,.l,.l,.r,.r,.l,.l,.r,.r,.r,.l,.r,.l,.l,.r,.l,.l,.l]
def B19 (P : PT) (N2 : NTy k1 Pr) (N5 : NTy k3 Pr) (x1 : Int) (x2 : Nat) (x5 : Value) (x8 : Int) (x9 x15 : Value) (x16 x17 : Int) (H : AHeap) : Prop :=
  ld1 H x2 1 (fun v1 => idxK x9 0 1 (fun b2 o3 => ldI .i64 H b2 o3 (fun v4 => idxK v1 v4 2 (fun b5 o6 => ldI .i64 H b5 o6 (fun v7 => ldI .i64 H b5 (o6 + 1) (fun v8 => L7 P N2 N5 x1 x2 x5 x8 x9 x15 x16 x17 v7 v8 0 H))))))
theorem q19 (P : PT) (N2 : NTy k1 Pr) (N5 : NTy k3 Pr) : QD Tryz.prog T0 81 o19 [(0, false), (1, false), (2, false), (3, false), (4, false), (5, false), (6, false), (7, false)] (En 81 k4 (L7 P N2 N5)) k3 (B19 P N2 N5) := fun _ _ _ _ _ _ _ _ _ _  => by kernel_rfl
noncomputable def o20 := ob Tryz.f165 [.r,.r,.l,.r,.l,.l,.r,.r,.l,.l,.r,.r,.r,.l,.r,.l,.l,.l,.l]
def B20 (P : PT) (N2 : NTy k1 Pr) (N5 : NTy k3 Pr) (x1 : Int) (x2 : Nat) (x5 : Value) (x8 : Int) (x9 x15 : Value) (x16 x17 : Int) (H : AHeap) : Prop :=
  lenK x9 (fun n1 => pif (decide (((n1 : Int) : Int) > 0)) (B19 P N2 N5 x1 x2 x5 x8 x9 x15 x16 x17 H) (B4 P N2 x1 x2 x5 x8 x15 x16 x17 H))
theorem q20 (P : PT) (N2 : NTy k1 Pr) (N5 : NTy k3 Pr) : QB Tryz.prog T0 81 o20 (cnd 35 (En 81 k3 (B19 P N2 N5)) (En 81 k2 (B4 P N2))) k3 (B20 P N2 N5) := fun _ _ _ _ _ _ _ _ _ _  => by kernel_rfl
def L5 (P : PT) (N2 : NTy k1 Pr) (x1 : Int) (x2 : Nat) (x5 : Value) (x8 : Int) (x9 x15 : Value) (x16 x17 : Int) (H : AHeap) : Prop :=
  ∃ (I : NTy k3 Pr) (μ : NTy k3 (AHeap → Nat)), I x1 x2 x5 x8 x9 x15 x16 x17 H ∧ ∀ y1 y2 y5 y8 y9 y15 y16 y17 G, I y1 y2 y5 y8 y9 y15 y16 y17 G → B20 P N2 (fun z1 z2 z5 z8 z9 z15 z16 z17 G' => I z1 z2 z5 z8 z9 z15 z16 z17 G' ∧ μ z1 z2 z5 z8 z9 z15 z16 z17 G' < μ y1 y2 y5 y8 y9 y15 y16 y17 G) y1 y2 y5 y8 y9 y15 y16 y17 G
theorem l5 (P : PT) (N2 : NTy k1 Pr) : LQ k3 (L5 P N2) (B20 P N2) := fun ⟨_,_,_,_,_,_,_,_,_⟩ _ ⟨I, μ, h0, hI⟩ => ⟨apT _ I, apT _ μ, h0, fun ⟨_,_,_,_,_,_,_,_,_⟩ _ h => hI _ _ _ _ _ _ _ _ _  h⟩
abbrev k8 : Sk := [(1,.i .u64),(2,.x),(5,.v),(7,.x),(8,.i .u64),(15,.v),(16,.i .i64),(17,.i .i64)]
noncomputable def o21 := ob Tryz.f165 [.r,.r,.l,.r,.l,.l,.r,.r,.l,.l,.r,.r,.r,.l,.l]
def B21 (P : PT) (N2 : NTy k1 Pr) (x1 : Int) (x2 : Nat) (x5 : Value) (x7 : Nat) (x8 : Int) (x15 : Value) (x16 x17 : Int) (H : AHeap) : Prop :=
  ldI .i64 H x7 0 (fun v1 => newK H [(Value.int .i64 v1)] 2 (fun b2 H3 => L5 P N2 x1 x2 x5 x8 (Value.slice (some ⟨b2, 0, none⟩) 1 (1 + 1)) x15 x16 x17 H3))
theorem q21 (P : PT) (N2 : NTy k1 Pr) : QB Tryz.prog T0 81 o21 (En 81 k3 (L5 P N2)) k8 (B21 P N2) := fun _ _ _ _ _ _ _ _ _ _  => by kernel_rfl
abbrev k9 : Sk := [(1,.i .u64),(2,.x),(5,.v),(7,.x),(15,.v),(16,.i .i64),(17,.i .i64)]
noncomputable def o22 := ob Tryz.f165 [.r,.r,.l,.r,.l,.l,.r,.r,.l,.l,.r,.r,.l]
def B22 (P : PT) (N2 : NTy k1 Pr) (x1 : Int) (x2 : Nat) (x5 : Value) (x7 : Nat) (x15 : Value) (x16 x17 : Int) (H : AHeap) : Prop :=
  ldI .i64 H x7 0 (fun v1 => ((0 : Int) ≤ v1) ∧ (B21 P N2 x1 x2 x5 x7 (IntKind.u64.wrap (1 * 2 ^ (min (Int.toNat v1) 64))) x15 x16 x17 H))
theorem q22 (P : PT) (N2 : NTy k1 Pr) : QB Tryz.prog T0 81 o22 (En 81 k8 (B21 P N2)) k9 (B22 P N2) := fun _ _ _ _ _ _ _ _ _  => by kernel_rfl
noncomputable def o23 := ob Tryz.f165 [.r,.r,.l,.r,.l,.l,.r,.r,.l,.l,.r,.l,.l]
def B23 (P : PT) (N2 : NTy k1 Pr) (x1 : Int) (x2 : Nat) (x5 : Value) (x7 : Nat) (x15 : Value) (x16 x17 : Int) (H : AHeap) : Prop :=
  lenK x5 (fun n1 => pif (decide (((n1 : Int) : Int) > 0)) (AC Tryz.prog T0 197 [x5, (Value.func (.func 198) ⟨[]⟩ ⟨[(Value.pointer (some ⟨x7, 0, none⟩))]⟩)] H (fun v2 H3 => asB v2 (fun v4 => pif v4 (B3 P N2 x1 x2 x5 x15 x16 x17 H3) (B22 P N2 x1 x2 x5 x7 x15 x16 x17 H3)))) (B22 P N2 x1 x2 x5 x7 x15 x16 x17 H))
theorem q23 (P : PT) (N2 : NTy k1 Pr) : QB Tryz.prog T0 81 o23 (cnd 28 (En 81 k1 (B3 P N2)) (En 81 k9 (B22 P N2))) k9 (B23 P N2) := fun _ _ _ _ _ _ _ _ _  => by kernel_rfl
noncomputable def o24 := ob Tryz.f165 [.r,.r,.l,.r,.l,.l,.r,.r,.l,.l,.l]
def B24 (P : PT) (N2 : NTy k1 Pr) (x1 : Int) (x2 : Nat) (x5 x15 : Value) (x16 x17 : Int) (H : AHeap) : Prop :=
  idxK x15 x17 1 (fun b1 o2 => ldI .i64 H b1 o2 (fun v3 => newK H [(Value.int .i64 0)] 2 (fun b4 H5 => stK H5 b4 0 [(Value.int .i64 v3)] (fun H6 => B23 P N2 x1 x2 x5 b4 x15 x16 x17 H6))))
theorem q24 (P : PT) (N2 : NTy k1 Pr) : QB Tryz.prog T0 81 o24 (En 81 k9 (B23 P N2)) k1 (B24 P N2) := fun _ _ _ _ _ _ _ _  => by kernel_rfl
noncomputable def o25 := ob Tryz.f165 [.r,.r,.l,.r,.l,.l,.l]
def B25 (P : PT) (N2 : NTy k1 Pr) (x1 : Int) (x2 : Nat) (x5 x15 : Value) (x16 x17 : Int) (H : AHeap) : Prop :=
  pif (decide ((x17 : Int) < x16)) (B24 P N2 x1 x2 x5 x15 x16 x17 H) (B1 P x5 H)
theorem q25 (P : PT) (N2 : NTy k1 Pr) : QB Tryz.prog T0 81 o25 (cnd 18 (En 81 k1 (B24 P N2)) (En 81 k0 (B1 P))) k1 (B25 P N2) := fun _ _ _ _ _ _ _ _  => by kernel_rfl
def L2 (P : PT) (x1 : Int) (x2 : Nat) (x5 x15 : Value) (x16 x17 : Int) (H : AHeap) : Prop :=
  ∃ (I : NTy k1 Pr) (μ : NTy k1 (AHeap → Nat)), I x1 x2 x5 x15 x16 x17 H ∧ ∀ y1 y2 y5 y15 y16 y17 G, I y1 y2 y5 y15 y16 y17 G → B25 P (fun z1 z2 z5 z15 z16 z17 G' => I z1 z2 z5 z15 z16 z17 G' ∧ μ z1 z2 z5 z15 z16 z17 G' < μ y1 y2 y5 y15 y16 y17 G) y1 y2 y5 y15 y16 y17 G
theorem l2 (P : PT) : LQ k1 (L2 P) (B25 P) := fun ⟨_,_,_,_,_,_,_⟩ _ ⟨I, μ, h0, hI⟩ => ⟨apT _ I, apT _ μ, h0, fun ⟨_,_,_,_,_,_,_⟩ _ h => hI _ _ _ _ _ _ _  h⟩
abbrev k10 : Sk := [(1,.i .u64),(2,.x),(5,.v)]
noncomputable def o26 := ob Tryz.f165 [.r,.r,.l,.l]
def B26 (P : PT) (x1 : Int) (x2 : Nat) (x5 : Value) (H : AHeap) : Prop :=
  AC Tryz.prog T0 81 [(Value.int .u64 x1)] H (fun v1 H2 => lenK v1 (fun n4 => L2 P x1 x2 x5 v1 (n4 : Int) 0 H2))
theorem q26 (P : PT) : QB Tryz.prog T0 81 o26 (En 81 k1 (L2 P)) k10 (B26 P) := fun _ _ _ _ _  => by kernel_rfl
abbrev k11 : Sk := [(1,.i .u64),(2,.x)]
noncomputable def o27 := ob Tryz.f165 [.r,.l]
def B27 (P : PT) (x1 : Int) (x2 : Nat) (H : AHeap) : Prop :=
  B26 P x1 x2 (Value.slice none 0 0) H
theorem q27 (P : PT) : QB Tryz.prog T0 81 o27 (En 81 k10 (B26 P)) k11 (B27 P) := fun _ _ _ _  => by kernel_rfl
abbrev k12 : Sk := [(0,.g [.i,.v]),(1,.i .u64)]
noncomputable def o28 := ob Tryz.f165 [.l]
def B28 (P : PT) (x0a : Int) (x0b : Value) (x1 : Int) (H : AHeap) : Prop :=
  newK H [(Value.int .i64 x0a), x0b] 26 (fun b1 H2 => B27 P x1 b1 H2)
theorem q28 (P : PT) : QB Tryz.prog T0 81 o28 (En 81 k11 (B27 P)) k12 (B28 P) := fun _ _ _ _ _  => by kernel_rfl
noncomputable def code : Code := (.seq (.region 0 ⟨o28⟩ false) (.seq (.region 1 ⟨o27⟩ false) (.seq (.seq (.region 2 ⟨o26⟩ false) (.block 0 (.loop (.seq (.region 3 ⟨o25⟩ false) (.seq (.cond (.tmp 18) .skip (.exit 0)) (.seq (.block 1 (.seq (.region 4 ⟨o24⟩ false) (.seq (.seq (.region 5 ⟨o23⟩ false) (.cond (.tmp 28) (.exit 1) .skip)) (.seq (.region 6 ⟨o22⟩ false) (.seq (.seq (.region 7 ⟨o21⟩ false) (.block 2 (.loop (.seq (.seq (.region 8 ⟨o20⟩ false) (.cond (.tmp 35) .skip (.exit 2))) (.seq (.block 3 (.seq (.region 10 ⟨o19⟩ true) (.block 4 (.loop (.seq (.region 11 ⟨o18⟩ false) (.seq (.cond (.tmp 46) .skip (.exit 4)) (.seq (.block 5 (.seq (.region 12 ⟨o17⟩ false) (.seq (.region 13 ⟨o16⟩ false) (.block 6 (.loop (.seq (.region 14 ⟨o15⟩ false) (.seq (.cond (.tmp 53) .skip (.exit 6)) (.seq (.block 7 (.seq (.region 15 ⟨o14⟩ false) (.seq (.region 16 ⟨o13⟩ false) (.cond (.tmp 64) (.seq (.region 17 ⟨o12⟩ false) (.region 18 ⟨o11⟩ false)) .skip)))) (.region 19 ⟨o10⟩ false))))))))) (.region 20 ⟨o8⟩ false)))))))) (.region 9 ⟨o6⟩ false)))))) (.region 21 ⟨o4⟩ false)))))) (.region 22 ⟨o3⟩ false))))))) (.seq (.region 23 ⟨o1⟩ false) .ret))))
theorem body : Tryz.f165.body = some code := by kernel_rfl
theorem main (P : PT) : ∀ env H, (En 81 k12 (B28 P)) env H → AW Tryz.prog T0 code env H (mkQ (ret P) (fun _ _ _ => False) (ret P)) :=
  (r_seq (rB T0_ok (q28 P)) (r_seq (rB T0_ok (q27 P)) (r_seq (r_seq (rB T0_ok (q26 P)) (r_block (rL (l2 P) (fun N2 => (r_seq (rB T0_ok (q25 P N2)) (r_seq (r_cond rfl r_skip (r_exit (fun _ _ h => h))) (r_seq (r_block (r_seq (rB T0_ok (q24 P N2)) (r_seq (r_seq (rB T0_ok (q23 P N2)) (r_cond rfl (r_exit (fun _ _ h => h)) r_skip)) (r_seq (rB T0_ok (q22 P N2)) (r_seq (r_seq (rB T0_ok (q21 P N2)) (r_block (rL (l5 P N2) (fun N5 => (r_seq (r_seq (rB T0_ok (q20 P N2 N5)) (r_cond rfl r_skip (r_exit (fun _ _ h => h)))) (r_seq (r_block (r_seq (rD T0_ok mixed [(0, false), (1, false), (2, false), (3, false), (4, false), (5, false), (6, false), (7, false)] (by kernel_rfl) (q19 P N2 N5)) (r_block (rL (l7 P N2 N5) (fun N7 => (r_seq (rB T0_ok (q18 P N2 N5 N7)) (r_seq (r_cond rfl r_skip (r_exit (fun _ _ h => h))) (r_seq (r_block (r_seq (rB T0_ok (q17 P N2 N5 N7)) (r_seq (rB T0_ok (q16 P N2 N5 N7)) (r_block (rL (l9 P N2 N5 N7) (fun N9 => (r_seq (rB T0_ok (q15 P N2 N5 N7 N9)) (r_seq (r_cond rfl r_skip (r_exit (fun _ _ h => h))) (r_seq (r_block (r_seq (rB T0_ok (q14 P N2 N5 N7 N9)) (r_seq (rB T0_ok (q13 P N2 N5 N7 N9)) (r_cond rfl (r_seq (rB T0_ok (q12 P N2 N5 N7 N9)) (rB T0_ok (q11 P N2 N5 N7 N9))) r_skip)))) (rB T0_ok (q10 P N2 N5 N7 N9))))))))))) (rB T0_ok (q8 P N2 N5 N7)))))))))) (rB T0_ok (q6 P N2 N5)))))))) (rB T0_ok (q4 P N2))))))) (rB T0_ok (q3 P N2))))))))) (r_seq (rB T0_ok (q1 P)) r_ret))))
theorem ac (P : PT) (x0a : Int) (x0b : Value) (x1 : Int) (H : AHeap) (h : B28 P x0a x0b x1 H) : AC Tryz.prog T0 165 [(Value.agg ⟨[(Value.int .i64 x0a), x0b]⟩), (Value.int .u64 x1)] H P :=
  r_fn T0_ok (c := code) (n := 81) Tryz.func165 body (by kernel_rfl) (main P) (En_mk (x0a, x0b, x1, ()) (by kernel_rfl) ⟨by kernel_rfl, by kernel_rfl, trivial⟩ h)

end F165
-- slices.pdqsortCmpFunc[loop.example/g01329/impl.set]
namespace F166
noncomputable def ret (P : PT) : EP := retE T0 148 Tryz.f166 P
abbrev k0 : Sk := [(0,.v),(1,.i .i64),(2,.i .i64),(3,.i .i64),(4,.v),(10,.b),(11,.b)]
abbrev k1 : Sk := [(0,.v),(2,.i .i64),(3,.i .i64),(4,.v),(10,.b),(11,.b),(16,.i .i64)]
noncomputable def o2 := ob Tryz.f166 [.r,.r,.l,.l,.l,.r,.r,.r,.r,.r,.r,.r,.r,.r,.r,.r,.r,.r,.l,.r,.r]
def B2 (P : PT) (N1 : NTy k0 Pr) (x0 : Value) (x2 x3 : Int) (x4 : Value) (x10 x11 : Bool) (x16 : Int) (H : AHeap) : Prop :=
  N1 x0 (IntKind.i64.wrap (x16 + 1)) x2 x3 x4 x10 x11 H
theorem q2 (P : PT) (N1 : NTy k0 Pr) : QB Tryz.prog T0 148 o2 (En 148 k0 N1) k1 (B2 P N1) := fun _ _ _ _ _ _ _ _ _  => by kernel_rfl
abbrev k2 : Sk := [(0,.v),(1,.i .i64),(2,.i .i64),(3,.i .i64),(4,.v),(10,.b),(11,.b),(16,.i .i64)]
noncomputable def o3 := ob Tryz.f166 [.r,.r,.l,.l,.l,.r,.r,.r,.r,.r,.r,.r,.r,.r,.r,.r,.r,.r,.l,.r,.l]
def B3 (P : PT) (N1 : NTy k0 Pr) (x0 : Value) (x1 x2 x3 : Int) (x4 : Value) (x10 x11 : Bool) (x16 : Int) (H : AHeap) : Prop :=
  AC Tryz.prog T0 166 [x0, (Value.int .i64 x1), (Value.int .i64 x16), (Value.int .i64 x3), x4] H (fun v1 H2 => asTup v1 (fun l3 => B2 P N1 x0 x2 x3 x4 x10 x11 x16 H2))
theorem q3 (P : PT) (N1 : NTy k0 Pr) : QB Tryz.prog T0 148 o3 (En 148 k1 (B2 P N1)) k2 (B3 P N1) := fun _ _ _ _ _ _ _ _ _ _  => by kernel_rfl
abbrev k3 : Sk := [(0,.v),(1,.i .i64),(2,.i .i64),(3,.i .i64),(4,.v),(11,.b),(16,.i .i64),(18,.i .i64),(20,.i .i64)]
noncomputable def o4 := ob Tryz.f166 [.r,.r,.l,.l,.l,.r,.r,.r,.r,.r,.r,.r,.r,.r,.r,.r,.r,.r,.l,.l]
def B4 (P : PT) (N1 : NTy k0 Pr) (x0 : Value) (x1 x2 x3 : Int) (x4 : Value) (x11 : Bool) (x16 x18 x20 : Int) (H : AHeap) : Prop :=
  B3 P N1 x0 x1 x2 x3 x4 (decide ((x18 : Int) ≥ x20)) x11 x16 H
theorem q4 (P : PT) (N1 : NTy k0 Pr) : QB Tryz.prog T0 148 o4 (En 148 k2 (B3 P N1)) k3 (B4 P N1) := fun _ _ _ _ _ _ _ _ _ _ _  => by kernel_rfl
abbrev k4 : Sk := [(0,.v),(1,.i .i64),(3,.i .i64),(4,.v),(10,.b),(11,.b),(16,.i .i64)]
noncomputable def o5 := ob Tryz.f166 [.r,.r,.l,.l,.l,.r,.r,.r,.r,.r,.r,.r,.r,.r,.r,.r,.r,.r,.r,.r,.r]
def B5 (P : PT) (N1 : NTy k0 Pr) (x0 : Value) (x1 x3 : Int) (x4 : Value) (x10 x11 : Bool) (x16 : Int) (H : AHeap) : Prop :=
  N1 x0 x1 x16 x3 x4 x10 x11 H
theorem q5 (P : PT) (N1 : NTy k0 Pr) : QB Tryz.prog T0 148 o5 (En 148 k0 N1) k4 (B5 P N1) := fun _ _ _ _ _ _ _ _ _  => by kernel_rfl
noncomputable def o6 := ob Tryz.f166 [.r,.r,.l,.l,.l,.r,.r,.r,.r,.r,.r,.r,.r,.r,.r,.r,.r,.r,.r,.r,.l]
def B6 (P : PT) (N1 : NTy k0 Pr) (x0 : Value) (x1 x2 x3 : Int) (x4 : Value) (x10 x11 : Bool) (x16 : Int) (H : AHeap) : Prop :=
  AC Tryz.prog T0 166 [x0, (Value.int .i64 (IntKind.i64.wrap (x16 + 1))), (Value.int .i64 x2), (Value.int .i64 x3), x4] H (fun v1 H2 => asTup v1 (fun l3 => B5 P N1 x0 x1 x3 x4 x10 x11 x16 H2))
theorem q6 (P : PT) (N1 : NTy k0 Pr) : QB Tryz.prog T0 148 o6 (En 148 k4 (B5 P N1)) k2 (B6 P N1) := fun _ _ _ _ _ _ _ _ _ _  => by kernel_rfl
abbrev k5 : Sk := [(0,.v),(1,.i .i64),(2,.i .i64),(3,.i .i64),(4,.v),(11,.b),(16,.i .i64),(19,.i .i64),(20,.i .i64)]
noncomputable def o7 := ob Tryz.f166 [.r,.r,.l,.l,.l,.r,.r,.r,.r,.r,.r,.r,.r,.r,.r,.r,.r,.r,.r,.l]
def B7 (P : PT) (N1 : NTy k0 Pr) (x0 : Value) (x1 x2 x3 : Int) (x4 : Value) (x11 : Bool) (x16 x19 x20 : Int) (H : AHeap) : Prop :=
  B6 P N1 x0 x1 x2 x3 x4 (decide ((x19 : Int) ≥ x20)) x11 x16 H
theorem q7 (P : PT) (N1 : NTy k0 Pr) : QB Tryz.prog T0 148 o7 (En 148 k2 (B6 P N1)) k5 (B7 P N1) := fun _ _ _ _ _ _ _ _ _ _ _  => by kernel_rfl
abbrev k6 : Sk := [(0,.v),(1,.i .i64),(2,.i .i64),(3,.i .i64),(4,.v),(11,.b),(16,.i .i64),(18,.i .i64),(19,.i .i64),(20,.i .i64)]
noncomputable def o8 := ob Tryz.f166 [.r,.r,.l,.l,.l,.r,.r,.r,.r,.r,.r,.r,.r,.r,.r,.r,.r,.l]
def B8 (P : PT) (N1 : NTy k0 Pr) (x0 : Value) (x1 x2 x3 : Int) (x4 : Value) (x11 : Bool) (x16 x18 x19 x20 : Int) (H : AHeap) : Prop :=
  pif (decide ((x18 : Int) < x19)) (B4 P N1 x0 x1 x2 x3 x4 x11 x16 x18 x20 H) (B7 P N1 x0 x1 x2 x3 x4 x11 x16 x19 x20 H)
theorem q8 (P : PT) (N1 : NTy k0 Pr) : QB Tryz.prog T0 148 o8 (cnd 125 (En 148 k3 (B4 P N1)) (En 148 k5 (B7 P N1))) k6 (B8 P N1) := fun _ _ _ _ _ _ _ _ _ _ _ _  => by kernel_rfl
abbrev k7 : Sk := [(0,.v),(1,.i .i64),(2,.i .i64),(3,.i .i64),(4,.v),(11,.b),(12,.i .i64),(16,.i .i64),(18,.i .i64),(19,.i .i64)]
noncomputable def o9 := ob Tryz.f166 [.r,.r,.l,.l,.l,.r,.r,.r,.r,.r,.r,.r,.r,.r,.r,.r,.l]
def B9 (P : PT) (N1 : NTy k0 Pr) (x0 : Value) (x1 x2 x3 : Int) (x4 : Value) (x11 : Bool) (x12 x16 x18 x19 : Int) (H : AHeap) : Prop :=
  B8 P N1 x0 x1 x2 x3 x4 x11 x16 x18 x19 (IntKind.i64.wrap (Int.tdiv x12 8)) H
theorem q9 (P : PT) (N1 : NTy k0 Pr) : QB Tryz.prog T0 148 o9 (En 148 k6 (B8 P N1)) k7 (B9 P N1) := fun _ _ _ _ _ _ _ _ _ _ _ _  => by kernel_rfl
abbrev k8 : Sk := [(0,.v),(1,.i .i64),(2,.i .i64),(3,.i .i64),(4,.v),(11,.b),(12,.i .i64),(16,.i .i64)]
noncomputable def o10 := ob Tryz.f166 [.r,.r,.l,.l,.l,.r,.r,.r,.r,.r,.r,.r,.r,.r,.r,.l]
def B10 (P : PT) (N1 : NTy k0 Pr) (x0 : Value) (x1 x2 x3 : Int) (x4 : Value) (x11 : Bool) (x12 x16 : Int) (H : AHeap) : Prop :=
  B9 P N1 x0 x1 x2 x3 x4 x11 x12 x16 (IntKind.i64.wrap (x16 - x1)) (IntKind.i64.wrap (x2 - x16)) H
theorem q10 (P : PT) (N1 : NTy k0 Pr) : QB Tryz.prog T0 148 o10 (En 148 k7 (B9 P N1)) k8 (B10 P N1) := fun _ _ _ _ _ _ _ _ _ _  => by kernel_rfl
abbrev k9 : Sk := [(0,.v),(1,.i .i64),(2,.i .i64),(3,.i .i64),(4,.v),(12,.i .i64),(16,.i .i64),(17,.b)]
noncomputable def o11 := ob Tryz.f166 [.r,.r,.l,.l,.l,.r,.r,.r,.r,.r,.r,.r,.r,.r,.l]
def B11 (P : PT) (N1 : NTy k0 Pr) (x0 : Value) (x1 x2 x3 : Int) (x4 : Value) (x12 x16 : Int) (x17 : Bool) (H : AHeap) : Prop :=
  B10 P N1 x0 x1 x2 x3 x4 x17 x12 x16 H
theorem q11 (P : PT) (N1 : NTy k0 Pr) : QB Tryz.prog T0 148 o11 (En 148 k8 (B10 P N1)) k9 (B11 P N1) := fun _ _ _ _ _ _ _ _ _ _  => by kernel_rfl
abbrev k10 : Sk := [(0,.v),(1,.i .i64),(2,.i .i64),(3,.i .i64),(4,.v),(12,.i .i64),(13,.i .i64)]
noncomputable def o12 := ob Tryz.f166 [.r,.r,.l,.l,.l,.r,.r,.r,.r,.r,.r,.r,.r,.l]
def B12 (P : PT) (N1 : NTy k0 Pr) (x0 : Value) (x1 x2 x3 : Int) (x4 : Value) (x12 x13 : Int) (H : AHeap) : Prop :=
  AC Tryz.prog T0 206 [x0, (Value.int .i64 x1), (Value.int .i64 x2), (Value.int .i64 x13), x4] H (fun v1 H2 => tup2 v1 (fun v3 v4 => asI .i64 v3 (fun v5 => asB v4 (fun v6 => B11 P N1 x0 x1 x2 x3 x4 x12 v5 v6 H2))))
theorem q12 (P : PT) (N1 : NTy k0 Pr) : QB Tryz.prog T0 148 o12 (En 148 k9 (B11 P N1)) k10 (B12 P N1) := fun _ _ _ _ _ _ _ _ _  => by kernel_rfl
abbrev k11 : Sk := [(0,.v),(2,.i .i64),(3,.i .i64),(4,.v),(10,.b),(11,.b),(15,.i .i64)]
noncomputable def o13 := ob Tryz.f166 [.r,.r,.l,.l,.l,.r,.r,.r,.r,.r,.r,.r,.l,.r,.l,.r,.l]
def B13 (P : PT) (N1 : NTy k0 Pr) (x0 : Value) (x2 x3 : Int) (x4 : Value) (x10 x11 : Bool) (x15 : Int) (H : AHeap) : Prop :=
  N1 x0 x15 x2 x3 x4 x10 x11 H
theorem q13 (P : PT) (N1 : NTy k0 Pr) : QB Tryz.prog T0 148 o13 (En 148 k0 N1) k11 (B13 P N1) := fun _ _ _ _ _ _ _ _ _  => by kernel_rfl
abbrev k12 : Sk := [(0,.v),(1,.i .i64),(2,.i .i64),(3,.i .i64),(4,.v),(10,.b),(11,.b),(13,.i .i64)]
noncomputable def o14 := ob Tryz.f166 [.r,.r,.l,.l,.l,.r,.r,.r,.r,.r,.r,.r,.l,.r,.l,.l]
def B14 (P : PT) (N1 : NTy k0 Pr) (x0 : Value) (x1 x2 x3 : Int) (x4 : Value) (x10 x11 : Bool) (x13 : Int) (H : AHeap) : Prop :=
  AC Tryz.prog T0 205 [x0, (Value.int .i64 x1), (Value.int .i64 x2), (Value.int .i64 x13), x4] H (fun v1 H2 => asI .i64 v1 (fun v3 => B13 P N1 x0 x2 x3 x4 x10 x11 v3 H2))
theorem q14 (P : PT) (N1 : NTy k0 Pr) : QB Tryz.prog T0 148 o14 (En 148 k11 (B13 P N1)) k12 (B14 P N1) := fun _ _ _ _ _ _ _ _ _ _  => by kernel_rfl
abbrev k13 : Sk := [(0,.v),(1,.i .i64),(2,.i .i64),(3,.i .i64),(4,.v),(10,.b),(11,.b),(12,.i .i64),(13,.i .i64)]
noncomputable def o15 := ob Tryz.f166 [.r,.r,.l,.l,.l,.r,.r,.r,.r,.r,.r,.r,.l,.l]
def B15 (P : PT) (N1 : NTy k0 Pr) (x0 : Value) (x1 x2 x3 : Int) (x4 : Value) (x10 x11 : Bool) (x12 x13 : Int) (H : AHeap) : Prop :=
  pif (decide ((x1 : Int) > 0)) (idxK x0 (IntKind.i64.wrap (x1 - 1)) 1 (fun b1 o2 => ldI .u64 H b1 o2 (fun v3 => idxK x0 x13 1 (fun b4 o5 => ldI .u64 H b4 o5 (fun v6 => callV Tryz.prog T0 x4 [(Value.int .u64 v3), (Value.int .u64 v6)] H (fun v7 H8 => asI .i64 v7 (fun v9 => pif (!(decide ((v9 : Int) < 0))) (B14 P N1 x0 x1 x2 x3 x4 x10 x11 x13 H8) (B12 P N1 x0 x1 x2 x3 x4 x12 x13 H8)))))))) (B12 P N1 x0 x1 x2 x3 x4 x12 x13 H)
theorem q15 (P : PT) (N1 : NTy k0 Pr) : QD Tryz.prog T0 148 o15 [(0, false), (1, false), (2, false), (3, false), (4, false), (5, false), (6, false), (7, false), (8, false), (9, false), (10, false), (11, false), (12, false), (13, false), (14, false), (15, false), (16, false)] (cnd 97 (En 148 k12 (B14 P N1)) (En 148 k10 (B12 P N1))) k13 (B15 P N1) := fun _ _ _ _ _ _ _ _ _ _ _  => by kernel_rfl
noncomputable def o16 := ob Tryz.f166 [.r,.r,.l,.l,.l,.r,.r,.r,.r,.r,.r,.l,.r,.l,.l]
def B16 (P : PT) (N1 : NTy k0 Pr) (x0 : Value) (x1 x2 x3 : Int) (x4 : Value) (x10 x11 : Bool) (x12 x13 : Int) (H : AHeap) : Prop :=
  AC Tryz.prog T0 204 [x0, (Value.int .i64 x1), (Value.int .i64 x2), x4] H (fun v1 H2 => asB v1 (fun v3 => pif v3 (P (Value.tuple ⟨[]⟩) H2) (B15 P N1 x0 x1 x2 x3 x4 x10 x11 x12 x13 H2)))
theorem q16 (P : PT) (N1 : NTy k0 Pr) : QB Tryz.prog T0 148 o16 (cnd 80 (ret P) (En 148 k13 (B15 P N1))) k13 (B16 P N1) := fun _ _ _ _ _ _ _ _ _ _ _  => by kernel_rfl
abbrev k14 : Sk := [(0,.v),(1,.i .i64),(2,.i .i64),(3,.i .i64),(4,.v),(10,.b),(11,.b),(12,.i .i64),(13,.i .i64),(14,.i .i64)]
noncomputable def o17 := ob Tryz.f166 [.r,.r,.l,.l,.l,.r,.r,.r,.r,.r,.r,.l,.l]
def B17 (P : PT) (N1 : NTy k0 Pr) (x0 : Value) (x1 x2 x3 : Int) (x4 : Value) (x10 x11 : Bool) (x12 x13 x14 : Int) (H : AHeap) : Prop :=
  pif x10 (pif x11 (pif ((x14 : Int) == 1) (B16 P N1 x0 x1 x2 x3 x4 x10 x11 x12 x13 H) (B15 P N1 x0 x1 x2 x3 x4 x10 x11 x12 x13 H)) (B15 P N1 x0 x1 x2 x3 x4 x10 x11 x12 x13 H)) (B15 P N1 x0 x1 x2 x3 x4 x10 x11 x12 x13 H)
theorem q17 (P : PT) (N1 : NTy k0 Pr) : QB Tryz.prog T0 148 o17 (cnd 75 (En 148 k13 (B16 P N1)) (En 148 k13 (B15 P N1))) k14 (B17 P N1) := fun _ _ _ _ _ _ _ _ _ _ _ _  => by kernel_rfl
noncomputable def o18 := ob Tryz.f166 [.r,.r,.l,.l,.l,.r,.r,.r,.r,.r,.l,.r,.l,.r,.r]
def B18 (P : PT) (N1 : NTy k0 Pr) (x0 : Value) (x1 x2 x3 : Int) (x4 : Value) (x10 x11 : Bool) (x12 x13 : Int) (H : AHeap) : Prop :=
  B17 P N1 x0 x1 x2 x3 x4 x10 x11 x12 x13 1 H
theorem q18 (P : PT) (N1 : NTy k0 Pr) : QB Tryz.prog T0 148 o18 (En 148 k14 (B17 P N1)) k13 (B18 P N1) := fun _ _ _ _ _ _ _ _ _ _ _  => by kernel_rfl
noncomputable def o19 := ob Tryz.f166 [.r,.r,.l,.l,.l,.r,.r,.r,.r,.r,.l,.r,.l,.r,.l]
def B19 (P : PT) (N1 : NTy k0 Pr) (x0 : Value) (x1 x2 x3 : Int) (x4 : Value) (x10 x11 : Bool) (x12 x13 : Int) (H : AHeap) : Prop :=
  B18 P N1 x0 x1 x2 x3 x4 x10 x11 x12 (IntKind.i64.wrap ((IntKind.i64.wrap (x2 - 1)) - (IntKind.i64.wrap (x13 - x1)))) H
theorem q19 (P : PT) (N1 : NTy k0 Pr) : QB Tryz.prog T0 148 o19 (En 148 k13 (B18 P N1)) k13 (B19 P N1) := fun _ _ _ _ _ _ _ _ _ _ _  => by kernel_rfl
noncomputable def o20 := ob Tryz.f166 [.r,.r,.l,.l,.l,.r,.r,.r,.r,.r,.l,.r,.l,.l]
def B20 (P : PT) (N1 : NTy k0 Pr) (x0 : Value) (x1 x2 x3 : Int) (x4 : Value) (x10 x11 : Bool) (x12 x13 : Int) (H : AHeap) : Prop :=
  AC Tryz.prog T0 203 [x0, (Value.int .i64 x1), (Value.int .i64 x2), x4] H (fun v1 H2 => asTup v1 (fun l3 => B19 P N1 x0 x1 x2 x3 x4 x10 x11 x12 x13 H2))
theorem q20 (P : PT) (N1 : NTy k0 Pr) : QB Tryz.prog T0 148 o20 (En 148 k13 (B19 P N1)) k13 (B20 P N1) := fun _ _ _ _ _ _ _ _ _ _ _  => by kernel_rfl
noncomputable def o21 := ob Tryz.f166 [.r,.r,.l,.l,.l,.r,.r,.r,.r,.r,.l,.l]
def B21 (P : PT) (N1 : NTy k0 Pr) (x0 : Value) (x1 x2 x3 : Int) (x4 : Value) (x10 x11 : Bool) (x12 x13 x14 : Int) (H : AHeap) : Prop :=
  pif ((x14 : Int) == 2) (B20 P N1 x0 x1 x2 x3 x4 x10 x11 x12 x13 H) (B17 P N1 x0 x1 x2 x3 x4 x10 x11 x12 x13 x14 H)
theorem q21 (P : PT) (N1 : NTy k0 Pr) : QB Tryz.prog T0 148 o21 (cnd 56 (En 148 k13 (B20 P N1)) (En 148 k14 (B17 P N1))) k14 (B21 P N1) := fun _ _ _ _ _ _ _ _ _ _ _ _  => by kernel_rfl
abbrev k15 : Sk := [(0,.v),(1,.i .i64),(2,.i .i64),(3,.i .i64),(4,.v),(10,.b),(11,.b),(12,.i .i64)]
noncomputable def o22 := ob Tryz.f166 [.r,.r,.l,.l,.l,.r,.r,.r,.r,.l]
def B22 (P : PT) (N1 : NTy k0 Pr) (x0 : Value) (x1 x2 x3 : Int) (x4 : Value) (x10 x11 : Bool) (x12 : Int) (H : AHeap) : Prop :=
  AC Tryz.prog T0 202 [x0, (Value.int .i64 x1), (Value.int .i64 x2), x4] H (fun v1 H2 => tup2 v1 (fun v3 v4 => asI .i64 v3 (fun v5 => asI .i64 v4 (fun v6 => B21 P N1 x0 x1 x2 x3 x4 x10 x11 x12 v5 v6 H2))))
theorem q22 (P : PT) (N1 : NTy k0 Pr) : QB Tryz.prog T0 148 o22 (En 148 k14 (B21 P N1)) k15 (B22 P N1) := fun _ _ _ _ _ _ _ _ _ _  => by kernel_rfl
noncomputable def o23 := ob Tryz.f166 [.r,.r,.l,.l,.l,.r,.r,.r,.l,.r,.l,.r]
def B23 (P : PT) (N1 : NTy k0 Pr) (x0 : Value) (x1 x2 x3 : Int) (x4 : Value) (x10 x11 : Bool) (x12 : Int) (H : AHeap) : Prop :=
  B22 P N1 x0 x1 x2 (IntKind.i64.wrap (x3 - 1)) x4 x10 x11 x12 H
theorem q23 (P : PT) (N1 : NTy k0 Pr) : QB Tryz.prog T0 148 o23 (En 148 k15 (B22 P N1)) k15 (B23 P N1) := fun _ _ _ _ _ _ _ _ _ _  => by kernel_rfl
noncomputable def o24 := ob Tryz.f166 [.r,.r,.l,.l,.l,.r,.r,.r,.l,.r,.l,.l]
def B24 (P : PT) (N1 : NTy k0 Pr) (x0 : Value) (x1 x2 x3 : Int) (x4 : Value) (x10 x11 : Bool) (x12 : Int) (H : AHeap) : Prop :=
  AC Tryz.prog T0 201 [x0, (Value.int .i64 x1), (Value.int .i64 x2), x4] H (fun v1 H2 => asTup v1 (fun l3 => B23 P N1 x0 x1 x2 x3 x4 x10 x11 x12 H2))
theorem q24 (P : PT) (N1 : NTy k0 Pr) : QB Tryz.prog T0 148 o24 (En 148 k15 (B23 P N1)) k15 (B24 P N1) := fun _ _ _ _ _ _ _ _ _ _  => by kernel_rfl
noncomputable def o25 := ob Tryz.f166 [.r,.r,.l,.l,.l,.r,.r,.r,.l,.l]
def B25 (P : PT) (N1 : NTy k0 Pr) (x0 : Value) (x1 x2 x3 : Int) (x4 : Value) (x10 x11 : Bool) (x12 : Int) (H : AHeap) : Prop :=
  pif (!x10) (B24 P N1 x0 x1 x2 x3 x4 x10 x11 x12 H) (B22 P N1 x0 x1 x2 x3 x4 x10 x11 x12 H)
theorem q25 (P : PT) (N1 : NTy k0 Pr) : QB Tryz.prog T0 148 o25 (cnd 39 (En 148 k15 (B24 P N1)) (En 148 k15 (B22 P N1))) k15 (B25 P N1) := fun _ _ _ _ _ _ _ _ _ _  => by kernel_rfl
abbrev k16 : Sk := [(0,.v),(1,.i .i64),(2,.i .i64),(4,.v)]
noncomputable def o26 := ob Tryz.f166 [.r,.r,.l,.l,.l,.r,.r,.l,.r,.l,.l]
def B26 (P : PT) (N1 : NTy k0 Pr) (x0 : Value) (x1 x2 : Int) (x4 : Value) (H : AHeap) : Prop :=
  AC Tryz.prog T0 200 [x0, (Value.int .i64 x1), (Value.int .i64 x2), x4] H (fun v1 H2 => asTup v1 (fun l3 => P (Value.tuple ⟨[]⟩) H2))
theorem q26 (P : PT) (N1 : NTy k0 Pr) : QB Tryz.prog T0 148 o26 (ret P) k16 (B26 P N1) := fun _ _ _ _ _ _  => by kernel_rfl
noncomputable def o27 := ob Tryz.f166 [.r,.r,.l,.l,.l,.r,.r,.l,.l]
def B27 (P : PT) (N1 : NTy k0 Pr) (x0 : Value) (x1 x2 x3 : Int) (x4 : Value) (x10 x11 : Bool) (x12 : Int) (H : AHeap) : Prop :=
  pif ((x3 : Int) == 0) (B26 P N1 x0 x1 x2 x4 H) (B25 P N1 x0 x1 x2 x3 x4 x10 x11 x12 H)
theorem q27 (P : PT) (N1 : NTy k0 Pr) : QB Tryz.prog T0 148 o27 (cnd 32 (En 148 k16 (B26 P N1)) (En 148 k15 (B25 P N1))) k15 (B27 P N1) := fun _ _ _ _ _ _ _ _ _ _  => by kernel_rfl
noncomputable def o28 := ob Tryz.f166 [.r,.r,.l,.l,.l,.r,.l,.r,.l,.l]
def B28 (P : PT) (N1 : NTy k0 Pr) (x0 : Value) (x1 x2 : Int) (x4 : Value) (H : AHeap) : Prop :=
  AC Tryz.prog T0 199 [x0, (Value.int .i64 x1), (Value.int .i64 x2), x4] H (fun v1 H2 => asTup v1 (fun l3 => P (Value.tuple ⟨[]⟩) H2))
theorem q28 (P : PT) (N1 : NTy k0 Pr) : QB Tryz.prog T0 148 o28 (ret P) k16 (B28 P N1) := fun _ _ _ _ _ _  => by kernel_rfl
noncomputable def o29 := ob Tryz.f166 [.r,.r,.l,.l,.l,.r,.l,.l]
def B29 (P : PT) (N1 : NTy k0 Pr) (x0 : Value) (x1 x2 x3 : Int) (x4 : Value) (x10 x11 : Bool) (x12 : Int) (H : AHeap) : Prop :=
  pif (decide ((x12 : Int) ≤ 12)) (B28 P N1 x0 x1 x2 x4 H) (B27 P N1 x0 x1 x2 x3 x4 x10 x11 x12 H)
theorem q29 (P : PT) (N1 : NTy k0 Pr) : QB Tryz.prog T0 148 o29 (cnd 25 (En 148 k16 (B28 P N1)) (En 148 k15 (B27 P N1))) k15 (B29 P N1) := fun _ _ _ _ _ _ _ _ _ _  => by kernel_rfl
noncomputable def o30 := ob Tryz.f166 [.r,.r,.l,.l,.l,.l]
def B30 (P : PT) (N1 : NTy k0 Pr) (x0 : Value) (x1 x2 x3 : Int) (x4 : Value) (x10 x11 : Bool) (H : AHeap) : Prop :=
  B29 P N1 x0 x1 x2 x3 x4 x10 x11 (IntKind.i64.wrap (x2 - x1)) H
theorem q30 (P : PT) (N1 : NTy k0 Pr) : QB Tryz.prog T0 148 o30 (En 148 k15 (B29 P N1)) k0 (B30 P N1) := fun _ _ _ _ _ _ _ _ _  => by kernel_rfl
def L1 (P : PT) (x0 : Value) (x1 x2 x3 : Int) (x4 : Value) (x10 x11 : Bool) (H : AHeap) : Prop :=
  ∃ (I : NTy k0 Pr) (μ : NTy k0 (AHeap → Nat)), I x0 x1 x2 x3 x4 x10 x11 H ∧ ∀ y0 y1 y2 y3 y4 y10 y11 G, I y0 y1 y2 y3 y4 y10 y11 G → B30 P (fun z0 z1 z2 z3 z4 z10 z11 G' => I z0 z1 z2 z3 z4 z10 z11 G' ∧ μ z0 z1 z2 z3 z4 z10 z11 G' < μ y0 y1 y2 y3 y4 y10 y11 G) y0 y1 y2 y3 y4 y10 y11 G
theorem l1 (P : PT) : LQ k0 (L1 P) (B30 P) := fun ⟨_,_,_,_,_,_,_,_⟩ _ ⟨I, μ, h0, hI⟩ => ⟨apT _ I, apT _ μ, h0, fun ⟨_,_,_,_,_,_,_,_⟩ _ h => hI _ _ _ _ _ _ _ _  h⟩
abbrev k17 : Sk := [(0,.v),(1,.i .i64),(2,.i .i64),(3,.i .i64),(4,.v),(10,.b)]
noncomputable def o31 := ob Tryz.f166 [.r,.l]
def B31 (P : PT) (x0 : Value) (x1 x2 x3 : Int) (x4 : Value) (x10 : Bool) (H : AHeap) : Prop :=
  L1 P x0 x1 x2 x3 x4 x10 true H
theorem q31 (P : PT) : QB Tryz.prog T0 148 o31 (En 148 k0 (L1 P)) k17 (B31 P) := fun _ _ _ _ _ _ _ _  => by kernel_rfl
abbrev k18 : Sk := [(0,.v),(1,.i .i64),(2,.i .i64),(3,.i .i64),(4,.v)]
noncomputable def o32 := ob Tryz.f166 [.l]
def B32 (P : PT) (x0 : Value) (x1 x2 x3 : Int) (x4 : Value) (H : AHeap) : Prop :=
  B31 P x0 x1 x2 x3 x4 true H
theorem q32 (P : PT) : QB Tryz.prog T0 148 o32 (En 148 k17 (B31 P)) k18 (B32 P) := fun _ _ _ _ _ _ _  => by kernel_rfl
noncomputable def code : Code := (.seq (.region 0 ⟨o32⟩ false) (.seq (.region 1 ⟨o31⟩ false) (.block 0 (.loop (.block 1 (.seq (.region 2 ⟨o30⟩ false) (.seq (.seq (.region 3 ⟨o29⟩ false) (.cond (.tmp 25) (.seq (.region 4 ⟨o28⟩ false) .ret) .skip)) (.seq (.seq (.region 5 ⟨o27⟩ false) (.cond (.tmp 32) (.seq (.region 6 ⟨o26⟩ false) .ret) .skip)) (.seq (.seq (.region 7 ⟨o25⟩ false) (.cond (.tmp 39) (.seq (.region 8 ⟨o24⟩ false) (.region 9 ⟨o23⟩ false)) .skip)) (.seq (.region 10 ⟨o22⟩ false) (.seq (.seq (.region 11 ⟨o21⟩ false) (.cond (.tmp 56) (.seq (.region 12 ⟨o20⟩ false) (.seq (.region 13 ⟨o19⟩ false) (.region 14 ⟨o18⟩ false))) .skip)) (.seq (.seq (.region 15 ⟨o17⟩ false) (.cond (.tmp 75) (.seq (.region 16 ⟨o16⟩ false) (.cond (.tmp 80) .ret .skip)) .skip)) (.seq (.seq (.region 17 ⟨o15⟩ true) (.cond (.tmp 97) (.seq (.region 18 ⟨o14⟩ false) (.seq (.region 19 ⟨o13⟩ false) (.exit 1))) .skip)) (.seq (.region 20 ⟨o12⟩ false) (.seq (.region 21 ⟨o11⟩ false) (.seq (.region 22 ⟨o10⟩ false) (.seq (.region 23 ⟨o9⟩ false) (.seq (.region 24 ⟨o8⟩ false) (.cond (.tmp 125) (.seq (.region 25 ⟨o4⟩ false) (.seq (.region 26 ⟨o3⟩ false) (.region 27 ⟨o2⟩ false))) (.seq (.region 28 ⟨o7⟩ false) (.seq (.region 29 ⟨o6⟩ false) (.region 30 ⟨o5⟩ false))))))))))))))))))))))
theorem body : Tryz.f166.body = some code := by kernel_rfl
theorem main (P : PT) : ∀ env H, (En 148 k18 (B32 P)) env H → AW Tryz.prog T0 code env H (mkQ (ret P) (fun _ _ _ => False) (ret P)) :=
  (r_seq (rB T0_ok (q32 P)) (r_seq (rB T0_ok (q31 P)) (r_block (rL (l1 P) (fun N1 => (r_block (r_seq (rB T0_ok (q30 P N1)) (r_seq (r_seq (rB T0_ok (q29 P N1)) (r_cond rfl (r_seq (rB T0_ok (q28 P N1)) r_ret) r_skip)) (r_seq (r_seq (rB T0_ok (q27 P N1)) (r_cond rfl (r_seq (rB T0_ok (q26 P N1)) r_ret) r_skip)) (r_seq (r_seq (rB T0_ok (q25 P N1)) (r_cond rfl (r_seq (rB T0_ok (q24 P N1)) (rB T0_ok (q23 P N1))) r_skip)) (r_seq (rB T0_ok (q22 P N1)) (r_seq (r_seq (rB T0_ok (q21 P N1)) (r_cond rfl (r_seq (rB T0_ok (q20 P N1)) (r_seq (rB T0_ok (q19 P N1)) (rB T0_ok (q18 P N1)))) r_skip)) (r_seq (r_seq (rB T0_ok (q17 P N1)) (r_cond rfl (r_seq (rB T0_ok (q16 P N1)) (r_cond rfl r_ret r_skip)) r_skip)) (r_seq (r_seq (rD T0_ok mixed [(0, false), (1, false), (2, false), (3, false), (4, false), (5, false), (6, false), (7, false), (8, false), (9, false), (10, false), (11, false), (12, false), (13, false), (14, false), (15, false), (16, false)] (by kernel_rfl) (q15 P N1)) (r_cond rfl (r_seq (rB T0_ok (q14 P N1)) (r_seq (rB T0_ok (q13 P N1)) (r_exit (fun _ _ h => h)))) r_skip)) (r_seq (rB T0_ok (q12 P N1)) (r_seq (rB T0_ok (q11 P N1)) (r_seq (rB T0_ok (q10 P N1)) (r_seq (rB T0_ok (q9 P N1)) (r_seq (rB T0_ok (q8 P N1)) (r_cond rfl (r_seq (rB T0_ok (q4 P N1)) (r_seq (rB T0_ok (q3 P N1)) (rB T0_ok (q2 P N1)))) (r_seq (rB T0_ok (q7 P N1)) (r_seq (rB T0_ok (q6 P N1)) (rB T0_ok (q5 P N1))))))))))))))))))))))))
theorem ac (P : PT) (x0 : Value) (x1 x2 x3 : Int) (x4 : Value) (H : AHeap) (h : B32 P x0 x1 x2 x3 x4 H) : AC Tryz.prog T0 166 [x0, (Value.int .i64 x1), (Value.int .i64 x2), (Value.int .i64 x3), x4] H P :=
  r_fn T0_ok (c := code) (n := 148) Tryz.func166 body (by kernel_rfl) (main P) (En_mk (x0, x1, x2, x3, x4, ()) (by kernel_rfl) ⟨by kernel_rfl, by kernel_rfl, by kernel_rfl, by kernel_rfl, by kernel_rfl, trivial⟩ h)

end F166
-- math/bits.Len
namespace F167
noncomputable def ret (P : PT) : EP := retE T0 8 Tryz.f167 P
abbrev k0 : Sk := [(0,.i .u64)]
noncomputable def o1 := ob Tryz.f167 [.r,.r,.l]
def B1 (P : PT) (x0 : Int) (H : AHeap) : Prop :=
  AC Tryz.prog T0 208 [(Value.int .u64 x0)] H (fun v1 H2 => asI .i64 v1 (fun v3 => P (Value.int .i64 v3) H2))
theorem q1 (P : PT) : QB Tryz.prog T0 8 o1 (ret P) k0 (B1 P) := fun _ _ _  => by kernel_rfl
noncomputable def o2 := ob Tryz.f167 [.l]
def B2 (P : PT) (x0 : Int) (H : AHeap) : Prop :=
  B1 P x0 H
theorem q2 (P : PT) : QB Tryz.prog T0 8 o2 (En 8 k0 (B1 P)) k0 (B2 P) := fun _ _ _  => by kernel_rfl
noncomputable def code : Code := (.seq (.region 0 ⟨o2⟩ false) (.seq (.cond (.const (.bool false)) (codeAt (bodyOf Tryz.f167) [.r,.l,.l]) .skip) (.seq (.region 2 ⟨o1⟩ false) .ret)))
theorem body : Tryz.f167.body = some code := by kernel_rfl
theorem main (P : PT) : ∀ env H, (En 8 k0 (B2 P)) env H → AW Tryz.prog T0 code env H (mkQ (ret P) (fun _ _ _ => False) (ret P)) :=
  (r_seq (rB T0_ok (q2 P)) (r_seq (r_condF r_skip) (r_seq (rB T0_ok (q1 P)) r_ret)))
theorem ac (P : PT) (x0 : Int) (H : AHeap) (h : B2 P x0 H) : AC Tryz.prog T0 167 [(Value.int .u64 x0)] H P :=
  r_fn T0_ok (c := code) (n := 8) Tryz.func167 body (by kernel_rfl) (main P) (En_mk (x0, ()) (by kernel_rfl) ⟨by kernel_rfl, trivial⟩ h)

end F167
-- cmp.Or[int]
namespace F168
noncomputable def ret (P : PT) : EP := retE T0 18 Tryz.f168 P
abbrev k0 : Sk := [(3,.i .i64)]
noncomputable def o1 := ob Tryz.f168 [.r,.r,.r,.l]
def B1 (P : PT) (x3 : Int) (H : AHeap) : Prop :=
  P (Value.int .i64 x3) H
theorem q1 (P : PT) : QB Tryz.prog T0 18 o1 (ret P) k0 (B1 P) := fun _ _ _  => by kernel_rfl
abbrev k1 : Sk := [(3,.i .i64),(6,.v),(7,.i .i64),(8,.i .i64)]
noncomputable def o3 := ob Tryz.f168 [.r,.r,.l,.r,.l,.l,.r,.r,.r]
def B3 (P : PT) (N2 : NTy k1 Pr) (x3 : Int) (x6 : Value) (x7 x8 : Int) (H : AHeap) : Prop :=
  N2 x3 x6 x7 (IntKind.i64.wrap (x8 + 1)) H
theorem q3 (P : PT) (N2 : NTy k1 Pr) : QB Tryz.prog T0 18 o3 (En 18 k1 N2) k1 (B3 P N2) := fun _ _ _ _ _ _  => by kernel_rfl
abbrev k2 : Sk := [(5,.i .i64)]
noncomputable def o4 := ob Tryz.f168 [.r,.r,.l,.r,.l,.l,.r,.r,.l,.l,.r,.r,.l,.l]
def B4 (P : PT) (N2 : NTy k1 Pr) (x5 : Int) (H : AHeap) : Prop :=
  P (Value.int .i64 x5) H
theorem q4 (P : PT) (N2 : NTy k1 Pr) : QB Tryz.prog T0 18 o4 (ret P) k2 (B4 P N2) := fun _ _ _  => by kernel_rfl
abbrev k3 : Sk := [(3,.i .i64),(5,.i .i64),(6,.v),(7,.i .i64),(8,.i .i64)]
noncomputable def o5 := ob Tryz.f168 [.r,.r,.l,.r,.l,.l,.r,.r,.l,.l,.r,.l]
def B5 (P : PT) (N2 : NTy k1 Pr) (x3 x5 : Int) (x6 : Value) (x7 x8 : Int) (H : AHeap) : Prop :=
  pif ((x5 : Int) != x3) (B4 P N2 x5 H) (B3 P N2 x3 x6 x7 x8 H)
theorem q5 (P : PT) (N2 : NTy k1 Pr) : QB Tryz.prog T0 18 o5 (cnd 14 (En 18 k2 (B4 P N2)) (En 18 k1 (B3 P N2))) k3 (B5 P N2) := fun _ _ _ _ _ _ _  => by kernel_rfl
noncomputable def o6 := ob Tryz.f168 [.r,.r,.l,.r,.l,.l,.r,.r,.l,.l,.l]
def B6 (P : PT) (N2 : NTy k1 Pr) (x3 : Int) (x6 : Value) (x7 x8 : Int) (H : AHeap) : Prop :=
  idxK x6 x8 1 (fun b1 o2 => ldI .i64 H b1 o2 (fun v3 => B5 P N2 x3 v3 x6 x7 x8 H))
theorem q6 (P : PT) (N2 : NTy k1 Pr) : QB Tryz.prog T0 18 o6 (En 18 k3 (B5 P N2)) k1 (B6 P N2) := fun _ _ _ _ _ _  => by kernel_rfl
noncomputable def o7 := ob Tryz.f168 [.r,.r,.l,.r,.l,.l,.l]
def B7 (P : PT) (N2 : NTy k1 Pr) (x3 : Int) (x6 : Value) (x7 x8 : Int) (H : AHeap) : Prop :=
  pif (decide ((x8 : Int) < x7)) (B6 P N2 x3 x6 x7 x8 H) (B1 P x3 H)
theorem q7 (P : PT) (N2 : NTy k1 Pr) : QB Tryz.prog T0 18 o7 (cnd 9 (En 18 k1 (B6 P N2)) (En 18 k0 (B1 P))) k1 (B7 P N2) := fun _ _ _ _ _ _  => by kernel_rfl
def L2 (P : PT) (x3 : Int) (x6 : Value) (x7 x8 : Int) (H : AHeap) : Prop :=
  ∃ (I : NTy k1 Pr) (μ : NTy k1 (AHeap → Nat)), I x3 x6 x7 x8 H ∧ ∀ y3 y6 y7 y8 G, I y3 y6 y7 y8 G → B7 P (fun z3 z6 z7 z8 G' => I z3 z6 z7 z8 G' ∧ μ z3 z6 z7 z8 G' < μ y3 y6 y7 y8 G) y3 y6 y7 y8 G
theorem l2 (P : PT) : LQ k1 (L2 P) (B7 P) := fun ⟨_,_,_,_,_⟩ _ ⟨I, μ, h0, hI⟩ => ⟨apT _ I, apT _ μ, h0, fun ⟨_,_,_,_,_⟩ _ h => hI _ _ _ _ _  h⟩
abbrev k4 : Sk := [(0,.v),(3,.i .i64)]
noncomputable def o8 := ob Tryz.f168 [.r,.r,.l,.l]
def B8 (P : PT) (x0 : Value) (x3 : Int) (H : AHeap) : Prop :=
  lenK x0 (fun n1 => L2 P x3 x0 (n1 : Int) 0 H)
theorem q8 (P : PT) : QB Tryz.prog T0 18 o8 (En 18 k1 (L2 P)) k4 (B8 P) := fun _ _ _ _  => by kernel_rfl
abbrev k5 : Sk := [(0,.v)]
noncomputable def o9 := ob Tryz.f168 [.r,.l]
def B9 (P : PT) (x0 : Value) (H : AHeap) : Prop :=
  B8 P x0 0 H
theorem q9 (P : PT) : QB Tryz.prog T0 18 o9 (En 18 k4 (B8 P)) k5 (B9 P) := fun _ _ _  => by kernel_rfl
noncomputable def o10 := ob Tryz.f168 [.l]
def B10 (P : PT) (x0 : Value) (H : AHeap) : Prop :=
  B9 P x0 H
theorem q10 (P : PT) : QB Tryz.prog T0 18 o10 (En 18 k5 (B9 P)) k5 (B10 P) := fun _ _ _  => by kernel_rfl
noncomputable def code : Code := (.seq (.region 0 ⟨o10⟩ false) (.seq (.region 1 ⟨o9⟩ false) (.seq (.seq (.region 2 ⟨o8⟩ false) (.block 0 (.loop (.seq (.region 3 ⟨o7⟩ false) (.seq (.cond (.tmp 9) .skip (.exit 0)) (.seq (.block 1 (.seq (.region 4 ⟨o6⟩ false) (.seq (.region 5 ⟨o5⟩ false) (.cond (.tmp 14) (.seq (.region 6 ⟨o4⟩ false) .ret) .skip)))) (.region 7 ⟨o3⟩ false))))))) (.seq (.region 8 ⟨o1⟩ false) .ret))))
theorem body : Tryz.f168.body = some code := by kernel_rfl
theorem main (P : PT) : ∀ env H, (En 18 k5 (B10 P)) env H → AW Tryz.prog T0 code env H (mkQ (ret P) (fun _ _ _ => False) (ret P)) :=
  (r_seq (rB T0_ok (q10 P)) (r_seq (rB T0_ok (q9 P)) (r_seq (r_seq (rB T0_ok (q8 P)) (r_block (rL (l2 P) (fun N2 => (r_seq (rB T0_ok (q7 P N2)) (r_seq (r_cond rfl r_skip (r_exit (fun _ _ h => h))) (r_seq (r_block (r_seq (rB T0_ok (q6 P N2)) (r_seq (rB T0_ok (q5 P N2)) (r_cond rfl (r_seq (rB T0_ok (q4 P N2)) r_ret) r_skip)))) (rB T0_ok (q3 P N2))))))))) (r_seq (rB T0_ok (q1 P)) r_ret))))
theorem ac (P : PT) (x0 : Value) (H : AHeap) (h : B10 P x0 H) : AC Tryz.prog T0 168 [x0] H P :=
  r_fn T0_ok (c := code) (n := 18) Tryz.func168 body (by kernel_rfl) (main P) (En_mk (x0, ()) (by kernel_rfl) ⟨by kernel_rfl, trivial⟩ h)

end F168
-- cmp.Compare[int64]
namespace F169
noncomputable def ret (P : PT) : EP := retE T0 20 Tryz.f169 P
abbrev k0 : Sk := []
noncomputable def o1 := ob Tryz.f169 [.r,.r,.r,.r,.r,.r,.r,.l]
def B1 (P : PT) (H : AHeap) : Prop :=
  P (Value.int .i64 0) H
theorem q1 (P : PT) : QB Tryz.prog T0 20 o1 (ret P) k0 (B1 P) := fun _ _  => by kernel_rfl
noncomputable def o2 := ob Tryz.f169 [.r,.r,.r,.r,.r,.r,.l,.r,.l,.l]
def B2 (P : PT) (H : AHeap) : Prop :=
  P (Value.int .i64 1) H
theorem q2 (P : PT) : QB Tryz.prog T0 20 o2 (ret P) k0 (B2 P) := fun _ _  => by kernel_rfl
abbrev k1 : Sk := [(0,.i .i64),(1,.i .i64)]
noncomputable def o3 := ob Tryz.f169 [.r,.r,.r,.r,.r,.r,.l,.l]
def B3 (P : PT) (x0 x1 : Int) (H : AHeap) : Prop :=
  pif (decide ((x0 : Int) > x1)) (B2 P H) (B1 P H)
theorem q3 (P : PT) : QB Tryz.prog T0 20 o3 (cnd 19 (En 20 k0 (B2 P)) (En 20 k0 (B1 P))) k1 (B3 P) := fun _ _ _ _  => by kernel_rfl
noncomputable def o4 := ob Tryz.f169 [.r,.r,.r,.r,.r,.l,.r,.l,.l]
def B4 (P : PT) (H : AHeap) : Prop :=
  P (Value.int .i64 (-1)) H
theorem q4 (P : PT) : QB Tryz.prog T0 20 o4 (ret P) k0 (B4 P) := fun _ _  => by kernel_rfl
noncomputable def o5 := ob Tryz.f169 [.r,.r,.r,.r,.r,.l,.l]
def B5 (P : PT) (x0 x1 : Int) (H : AHeap) : Prop :=
  pif (decide ((x0 : Int) < x1)) (B4 P H) (B3 P x0 x1 H)
theorem q5 (P : PT) : QB Tryz.prog T0 20 o5 (cnd 16 (En 20 k0 (B4 P)) (En 20 k1 (B3 P))) k1 (B5 P) := fun _ _ _ _  => by kernel_rfl
noncomputable def o6 := ob Tryz.f169 [.r,.r,.r,.r,.l,.r,.l,.l]
def B6 (P : PT) (H : AHeap) : Prop :=
  P (Value.int .i64 1) H
theorem q6 (P : PT) : QB Tryz.prog T0 20 o6 (ret P) k0 (B6 P) := fun _ _  => by kernel_rfl
abbrev k2 : Sk := [(0,.i .i64),(1,.i .i64),(6,.b)]
noncomputable def o7 := ob Tryz.f169 [.r,.r,.r,.r,.l,.l]
def B7 (P : PT) (x0 x1 : Int) (x6 : Bool) (H : AHeap) : Prop :=
  pif x6 (B6 P H) (B5 P x0 x1 H)
theorem q7 (P : PT) : QB Tryz.prog T0 20 o7 (cnd 13 (En 20 k0 (B6 P)) (En 20 k1 (B5 P))) k2 (B7 P) := fun _ _ _ _ _  => by kernel_rfl
noncomputable def o8 := ob Tryz.f169 [.r,.r,.r,.l,.r,.l,.r,.l]
def B8 (P : PT) (H : AHeap) : Prop :=
  P (Value.int .i64 (-1)) H
theorem q8 (P : PT) : QB Tryz.prog T0 20 o8 (ret P) k0 (B8 P) := fun _ _  => by kernel_rfl
noncomputable def o9 := ob Tryz.f169 [.r,.r,.r,.l,.r,.l,.l,.r,.l,.l]
def B9 (P : PT) (H : AHeap) : Prop :=
  P (Value.int .i64 0) H
theorem q9 (P : PT) : QB Tryz.prog T0 20 o9 (ret P) k0 (B9 P) := fun _ _  => by kernel_rfl
abbrev k3 : Sk := [(6,.b)]
noncomputable def o10 := ob Tryz.f169 [.r,.r,.r,.l,.r,.l,.l,.l]
def B10 (P : PT) (x6 : Bool) (H : AHeap) : Prop :=
  pif x6 (B9 P H) (B8 P H)
theorem q10 (P : PT) : QB Tryz.prog T0 20 o10 (cnd 12 (En 20 k0 (B9 P)) (En 20 k0 (B8 P))) k3 (B10 P) := fun _ _ _  => by kernel_rfl
abbrev k4 : Sk := [(0,.i .i64),(1,.i .i64),(5,.b),(6,.b)]
noncomputable def o11 := ob Tryz.f169 [.r,.r,.r,.l,.l]
def B11 (P : PT) (x0 x1 : Int) (x5 x6 : Bool) (H : AHeap) : Prop :=
  pif x5 (B10 P x6 H) (B7 P x0 x1 x6 H)
theorem q11 (P : PT) : QB Tryz.prog T0 20 o11 (cnd 11 (En 20 k3 (B10 P)) (En 20 k2 (B7 P))) k4 (B11 P) := fun _ _ _ _ _ _  => by kernel_rfl
abbrev k5 : Sk := [(0,.i .i64),(1,.i .i64),(5,.b)]
noncomputable def o12 := ob Tryz.f169 [.r,.r,.l]
def B12 (P : PT) (x0 x1 : Int) (x5 : Bool) (H : AHeap) : Prop :=
  AC Tryz.prog T0 209 [(Value.int .i64 x1)] H (fun v1 H2 => asB v1 (fun v3 => B11 P x0 x1 x5 v3 H2))
theorem q12 (P : PT) : QB Tryz.prog T0 20 o12 (En 20 k4 (B11 P)) k5 (B12 P) := fun _ _ _ _ _  => by kernel_rfl
noncomputable def o13 := ob Tryz.f169 [.r,.l]
def B13 (P : PT) (x0 x1 : Int) (H : AHeap) : Prop :=
  AC Tryz.prog T0 209 [(Value.int .i64 x0)] H (fun v1 H2 => asB v1 (fun v3 => B12 P x0 x1 v3 H2))
theorem q13 (P : PT) : QB Tryz.prog T0 20 o13 (En 20 k5 (B12 P)) k1 (B13 P) := fun _ _ _ _  => by kernel_rfl
noncomputable def o14 := ob Tryz.f169 [.l]
def B14 (P : PT) (x0 x1 : Int) (H : AHeap) : Prop :=
  B13 P x0 x1 H
theorem q14 (P : PT) : QB Tryz.prog T0 20 o14 (En 20 k1 (B13 P)) k1 (B14 P) := fun _ _ _ _  => by kernel_rfl
noncomputable def code : Code := (.seq (.region 0 ⟨o14⟩ false) (.seq (.region 1 ⟨o13⟩ false) (.seq (.region 2 ⟨o12⟩ false) (.seq (.seq (.region 3 ⟨o11⟩ false) (.cond (.tmp 11) (.seq (.seq (.region 4 ⟨o10⟩ false) (.cond (.tmp 12) (.seq (.region 5 ⟨o9⟩ false) .ret) .skip)) (.seq (.region 6 ⟨o8⟩ false) .ret)) .skip)) (.seq (.seq (.region 7 ⟨o7⟩ false) (.cond (.tmp 13) (.seq (.region 8 ⟨o6⟩ false) .ret) .skip)) (.seq (.seq (.region 9 ⟨o5⟩ false) (.cond (.tmp 16) (.seq (.region 10 ⟨o4⟩ false) .ret) .skip)) (.seq (.seq (.region 11 ⟨o3⟩ false) (.cond (.tmp 19) (.seq (.region 12 ⟨o2⟩ false) .ret) .skip)) (.seq (.region 13 ⟨o1⟩ false) .ret))))))))
theorem body : Tryz.f169.body = some code := by kernel_rfl
theorem main (P : PT) : ∀ env H, (En 20 k1 (B14 P)) env H → AW Tryz.prog T0 code env H (mkQ (ret P) (fun _ _ _ => False) (ret P)) :=
  (r_seq (rB T0_ok (q14 P)) (r_seq (rB T0_ok (q13 P)) (r_seq (rB T0_ok (q12 P)) (r_seq (r_seq (rB T0_ok (q11 P)) (r_cond rfl (r_seq (r_seq (rB T0_ok (q10 P)) (r_cond rfl (r_seq (rB T0_ok (q9 P)) r_ret) r_skip)) (r_seq (rB T0_ok (q8 P)) r_ret)) r_skip)) (r_seq (r_seq (rB T0_ok (q7 P)) (r_cond rfl (r_seq (rB T0_ok (q6 P)) r_ret) r_skip)) (r_seq (r_seq (rB T0_ok (q5 P)) (r_cond rfl (r_seq (rB T0_ok (q4 P)) r_ret) r_skip)) (r_seq (r_seq (rB T0_ok (q3 P)) (r_cond rfl (r_seq (rB T0_ok (q2 P)) r_ret) r_skip)) (r_seq (rB T0_ok (q1 P)) r_ret))))))))
theorem ac (P : PT) (x0 x1 : Int) (H : AHeap) (h : B14 P x0 x1 H) : AC Tryz.prog T0 169 [(Value.int .i64 x0), (Value.int .i64 x1)] H P :=
  r_fn T0_ok (c := code) (n := 20) Tryz.func169 body (by kernel_rfl) (main P) (En_mk (x0, x1, ()) (by kernel_rfl) ⟨by kernel_rfl, by kernel_rfl, trivial⟩ h)

end F169
-- slices.Compare[[]int64,int64]
namespace F170
noncomputable def ret (P : PT) : EP := retE T0 36 Tryz.f170 P
abbrev k0 : Sk := []
noncomputable def o1 := ob Tryz.f170 [.r,.r,.r,.l]
def B1 (P : PT) (H : AHeap) : Prop :=
  P (Value.int .i64 0) H
theorem q1 (P : PT) : QB Tryz.prog T0 36 o1 (ret P) k0 (B1 P) := fun _ _  => by kernel_rfl
noncomputable def o2 := ob Tryz.f170 [.r,.r,.l,.r,.l,.l]
def B2 (P : PT) (H : AHeap) : Prop :=
  P (Value.int .i64 (-1)) H
theorem q2 (P : PT) : QB Tryz.prog T0 36 o2 (ret P) k0 (B2 P) := fun _ _  => by kernel_rfl
abbrev k1 : Sk := [(0,.v),(1,.v)]
noncomputable def o3 := ob Tryz.f170 [.r,.r,.l,.l]
def B3 (P : PT) (x0 x1 : Value) (H : AHeap) : Prop :=
  lenK x0 (fun n1 => lenK x1 (fun n2 => pif (decide (((n1 : Int) : Int) < (n2 : Int))) (B2 P H) (B1 P H)))
theorem q3 (P : PT) : QB Tryz.prog T0 36 o3 (cnd 35 (En 36 k0 (B2 P)) (En 36 k0 (B1 P))) k1 (B3 P) := fun _ _ _ _  => by kernel_rfl
abbrev k2 : Sk := [(0,.v),(1,.v),(9,.v),(10,.i .i64),(11,.i .i64)]
noncomputable def o5 := ob Tryz.f170 [.r,.l,.r,.l,.l,.r,.r,.r]
def B5 (P : PT) (N4 : NTy k2 Pr) (x0 x1 x9 : Value) (x10 x11 : Int) (H : AHeap) : Prop :=
  N4 x0 x1 x9 x10 (IntKind.i64.wrap (x11 + 1)) H
theorem q5 (P : PT) (N4 : NTy k2 Pr) : QB Tryz.prog T0 36 o5 (En 36 k2 N4) k2 (B5 P N4) := fun _ _ _ _ _ _ _  => by kernel_rfl
abbrev k3 : Sk := [(8,.i .i64)]
noncomputable def o6 := ob Tryz.f170 [.r,.l,.r,.l,.l,.r,.r,.l,.l,.r,.r,.r,.r,.r,.l,.l]
def B6 (P : PT) (N4 : NTy k2 Pr) (x8 : Int) (H : AHeap) : Prop :=
  P (Value.int .i64 x8) H
theorem q6 (P : PT) (N4 : NTy k2 Pr) : QB Tryz.prog T0 36 o6 (ret P) k3 (B6 P N4) := fun _ _ _  => by kernel_rfl
abbrev k4 : Sk := [(0,.v),(1,.v),(8,.i .i64),(9,.v),(10,.i .i64),(11,.i .i64)]
noncomputable def o7 := ob Tryz.f170 [.r,.l,.r,.l,.l,.r,.r,.l,.l,.r,.r,.r,.r,.l]
def B7 (P : PT) (N4 : NTy k2 Pr) (x0 x1 : Value) (x8 : Int) (x9 : Value) (x10 x11 : Int) (H : AHeap) : Prop :=
  pif ((x8 : Int) != 0) (B6 P N4 x8 H) (B5 P N4 x0 x1 x9 x10 x11 H)
theorem q7 (P : PT) (N4 : NTy k2 Pr) : QB Tryz.prog T0 36 o7 (cnd 28 (En 36 k3 (B6 P N4)) (En 36 k2 (B5 P N4))) k4 (B7 P N4) := fun _ _ _ _ _ _ _ _  => by kernel_rfl
abbrev k5 : Sk := [(0,.v),(1,.v),(6,.i .i64),(7,.i .i64),(9,.v),(10,.i .i64),(11,.i .i64)]
noncomputable def o8 := ob Tryz.f170 [.r,.l,.r,.l,.l,.r,.r,.l,.l,.r,.r,.r,.l]
def B8 (P : PT) (N4 : NTy k2 Pr) (x0 x1 : Value) (x6 x7 : Int) (x9 : Value) (x10 x11 : Int) (H : AHeap) : Prop :=
  AC Tryz.prog T0 169 [(Value.int .i64 x6), (Value.int .i64 x7)] H (fun v1 H2 => asI .i64 v1 (fun v3 => B7 P N4 x0 x1 v3 x9 x10 x11 H2))
theorem q8 (P : PT) (N4 : NTy k2 Pr) : QB Tryz.prog T0 36 o8 (En 36 k4 (B7 P N4)) k5 (B8 P N4) := fun _ _ _ _ _ _ _ _ _  => by kernel_rfl
abbrev k6 : Sk := [(0,.v),(1,.v),(5,.i .i64),(6,.i .i64),(9,.v),(10,.i .i64),(11,.i .i64)]
noncomputable def o9 := ob Tryz.f170 [.r,.l,.r,.l,.l,.r,.r,.l,.l,.r,.r,.l]
def B9 (P : PT) (N4 : NTy k2 Pr) (x0 x1 : Value) (x5 x6 : Int) (x9 : Value) (x10 x11 : Int) (H : AHeap) : Prop :=
  idxK x1 x5 1 (fun b1 o2 => ldI .i64 H b1 o2 (fun v3 => B8 P N4 x0 x1 x6 v3 x9 x10 x11 H))
theorem q9 (P : PT) (N4 : NTy k2 Pr) : QB Tryz.prog T0 36 o9 (En 36 k5 (B8 P N4)) k6 (B9 P N4) := fun _ _ _ _ _ _ _ _ _  => by kernel_rfl
noncomputable def o10 := ob Tryz.f170 [.r,.l,.r,.l,.l,.r,.r,.l,.l,.r,.l,.r,.l,.l]
def B10 (P : PT) (N4 : NTy k2 Pr) (H : AHeap) : Prop :=
  P (Value.int .i64 1) H
theorem q10 (P : PT) (N4 : NTy k2 Pr) : QB Tryz.prog T0 36 o10 (ret P) k0 (B10 P N4) := fun _ _  => by kernel_rfl
noncomputable def o11 := ob Tryz.f170 [.r,.l,.r,.l,.l,.r,.r,.l,.l,.r,.l,.l]
def B11 (P : PT) (N4 : NTy k2 Pr) (x0 x1 : Value) (x5 x6 : Int) (x9 : Value) (x10 x11 : Int) (H : AHeap) : Prop :=
  lenK x1 (fun n1 => pif (decide ((x5 : Int) ≥ (n1 : Int))) (B10 P N4 H) (B9 P N4 x0 x1 x5 x6 x9 x10 x11 H))
theorem q11 (P : PT) (N4 : NTy k2 Pr) : QB Tryz.prog T0 36 o11 (cnd 19 (En 36 k0 (B10 P N4)) (En 36 k6 (B9 P N4))) k6 (B11 P N4) := fun _ _ _ _ _ _ _ _ _  => by kernel_rfl
noncomputable def o12 := ob Tryz.f170 [.r,.l,.r,.l,.l,.r,.r,.l,.l,.l]
def B12 (P : PT) (N4 : NTy k2 Pr) (x0 x1 x9 : Value) (x10 x11 : Int) (H : AHeap) : Prop :=
  idxK x9 x11 1 (fun b1 o2 => ldI .i64 H b1 o2 (fun v3 => B11 P N4 x0 x1 x11 v3 x9 x10 x11 H))
theorem q12 (P : PT) (N4 : NTy k2 Pr) : QB Tryz.prog T0 36 o12 (En 36 k6 (B11 P N4)) k2 (B12 P N4) := fun _ _ _ _ _ _ _  => by kernel_rfl
noncomputable def o13 := ob Tryz.f170 [.r,.l,.r,.l,.l,.l]
def B13 (P : PT) (N4 : NTy k2 Pr) (x0 x1 x9 : Value) (x10 x11 : Int) (H : AHeap) : Prop :=
  pif (decide ((x11 : Int) < x10)) (B12 P N4 x0 x1 x9 x10 x11 H) (B3 P x0 x1 H)
theorem q13 (P : PT) (N4 : NTy k2 Pr) : QB Tryz.prog T0 36 o13 (cnd 12 (En 36 k2 (B12 P N4)) (En 36 k1 (B3 P))) k2 (B13 P N4) := fun _ _ _ _ _ _ _  => by kernel_rfl
def L4 (P : PT) (x0 x1 x9 : Value) (x10 x11 : Int) (H : AHeap) : Prop :=
  ∃ (I : NTy k2 Pr) (μ : NTy k2 (AHeap → Nat)), I x0 x1 x9 x10 x11 H ∧ ∀ y0 y1 y9 y10 y11 G, I y0 y1 y9 y10 y11 G → B13 P (fun z0 z1 z9 z10 z11 G' => I z0 z1 z9 z10 z11 G' ∧ μ z0 z1 z9 z10 z11 G' < μ y0 y1 y9 y10 y11 G) y0 y1 y9 y10 y11 G
theorem l4 (P : PT) : LQ k2 (L4 P) (B13 P) := fun ⟨_,_,_,_,_,_⟩ _ ⟨I, μ, h0, hI⟩ => ⟨apT _ I, apT _ μ, h0, fun ⟨_,_,_,_,_,_⟩ _ h => hI _ _ _ _ _ _  h⟩
noncomputable def o14 := ob Tryz.f170 [.r,.l,.l]
def B14 (P : PT) (x0 x1 : Value) (H : AHeap) : Prop :=
  lenK x0 (fun n1 => L4 P x0 x1 x0 (n1 : Int) 0 H)
theorem q14 (P : PT) : QB Tryz.prog T0 36 o14 (En 36 k2 (L4 P)) k1 (B14 P) := fun _ _ _ _  => by kernel_rfl
noncomputable def o15 := ob Tryz.f170 [.l]
def B15 (P : PT) (x0 x1 : Value) (H : AHeap) : Prop :=
  B14 P x0 x1 H
theorem q15 (P : PT) : QB Tryz.prog T0 36 o15 (En 36 k1 (B14 P)) k1 (B15 P) := fun _ _ _ _  => by kernel_rfl
noncomputable def code : Code := (.seq (.region 0 ⟨o15⟩ false) (.seq (.seq (.region 1 ⟨o14⟩ false) (.block 0 (.loop (.seq (.region 2 ⟨o13⟩ false) (.seq (.cond (.tmp 12) .skip (.exit 0)) (.seq (.block 1 (.seq (.region 3 ⟨o12⟩ false) (.seq (.seq (.region 4 ⟨o11⟩ false) (.cond (.tmp 19) (.seq (.region 5 ⟨o10⟩ false) .ret) .skip)) (.seq (.region 6 ⟨o9⟩ false) (.seq (.region 7 ⟨o8⟩ false) (.seq (.region 8 ⟨o7⟩ false) (.cond (.tmp 28) (.seq (.region 9 ⟨o6⟩ false) .ret) .skip))))))) (.region 10 ⟨o5⟩ false))))))) (.seq (.seq (.region 11 ⟨o3⟩ false) (.cond (.tmp 35) (.seq (.region 12 ⟨o2⟩ false) .ret) .skip)) (.seq (.region 13 ⟨o1⟩ false) .ret))))
theorem body : Tryz.f170.body = some code := by kernel_rfl
theorem main (P : PT) : ∀ env H, (En 36 k1 (B15 P)) env H → AW Tryz.prog T0 code env H (mkQ (ret P) (fun _ _ _ => False) (ret P)) :=
  (r_seq (rB T0_ok (q15 P)) (r_seq (r_seq (rB T0_ok (q14 P)) (r_block (rL (l4 P) (fun N4 => (r_seq (rB T0_ok (q13 P N4)) (r_seq (r_cond rfl r_skip (r_exit (fun _ _ h => h))) (r_seq (r_block (r_seq (rB T0_ok (q12 P N4)) (r_seq (r_seq (rB T0_ok (q11 P N4)) (r_cond rfl (r_seq (rB T0_ok (q10 P N4)) r_ret) r_skip)) (r_seq (rB T0_ok (q9 P N4)) (r_seq (rB T0_ok (q8 P N4)) (r_seq (rB T0_ok (q7 P N4)) (r_cond rfl (r_seq (rB T0_ok (q6 P N4)) r_ret) r_skip))))))) (rB T0_ok (q5 P N4))))))))) (r_seq (r_seq (rB T0_ok (q3 P)) (r_cond rfl (r_seq (rB T0_ok (q2 P)) r_ret) r_skip)) (r_seq (rB T0_ok (q1 P)) r_ret))))
theorem ac (P : PT) (x0 x1 : Value) (H : AHeap) (h : B15 P x0 x1 H) : AC Tryz.prog T0 170 [x0, x1] H P :=
  r_fn T0_ok (c := code) (n := 36) Tryz.func170 body (by kernel_rfl) (main P) (En_mk (x0, x1, ()) (by kernel_rfl) ⟨by kernel_rfl, by kernel_rfl, trivial⟩ h)

end F170
-- loop.example/g01329/laws.eqEdge
namespace F171
noncomputable def ret (P : PT) : EP := retE T0 17 Tryz.f171 P
abbrev k0 : Sk := []
noncomputable def o1 := ob Tryz.f171 [.r,.r,.l]
def B1 (P : PT) (H : AHeap) : Prop :=
  P (Value.bool true) H
theorem q1 (P : PT) : QB Tryz.prog T0 17 o1 (ret P) k0 (B1 P) := fun _ _  => by kernel_rfl
abbrev k1 : Sk := [(2,.x),(3,.x),(5,.i .i64)]
noncomputable def o3 := ob Tryz.f171 [.r,.l,.r,.l,.l,.r,.r]
def B3 (P : PT) (N2 : NTy k1 Pr) (x2 x3 : Nat) (x5 : Int) (H : AHeap) : Prop :=
  N2 x2 x3 (IntKind.i64.wrap (x5 + 1)) H
theorem q3 (P : PT) (N2 : NTy k1 Pr) : QB Tryz.prog T0 17 o3 (En 17 k1 N2) k1 (B3 P N2) := fun _ _ _ _ _  => by kernel_rfl
noncomputable def o4 := ob Tryz.f171 [.r,.l,.r,.l,.l,.r,.l,.l,.r,.l,.l]
def B4 (P : PT) (N2 : NTy k1 Pr) (H : AHeap) : Prop :=
  P (Value.bool false) H
theorem q4 (P : PT) (N2 : NTy k1 Pr) : QB Tryz.prog T0 17 o4 (ret P) k0 (B4 P N2) := fun _ _  => by kernel_rfl
noncomputable def o5 := ob Tryz.f171 [.r,.l,.r,.l,.l,.r,.l,.l,.l]
def B5 (P : PT) (N2 : NTy k1 Pr) (x2 x3 : Nat) (x5 : Int) (H : AHeap) : Prop :=
  bndK x5 2 (ldI .i64 H x2 (0 + Int.toNat x5 * 1) (fun v1 => bndK x5 2 (ldI .i64 H x3 (0 + Int.toNat x5 * 1) (fun v2 => pif ((v1 : Int) != v2) (B4 P N2 H) (B3 P N2 x2 x3 x5 H)))))
theorem q5 (P : PT) (N2 : NTy k1 Pr) : QD Tryz.prog T0 17 o5 [(0, false), (1, false), (2, false), (3, false), (4, false), (5, false), (6, false)] (cnd 16 (En 17 k0 (B4 P N2)) (En 17 k1 (B3 P N2))) k1 (B5 P N2) := fun _ _ _ _ _  => by kernel_rfl
noncomputable def o6 := ob Tryz.f171 [.r,.l,.r,.l,.l,.l,.l]
def B6 (P : PT) (N2 : NTy k1 Pr) (x2 x3 : Nat) (x5 : Int) (H : AHeap) : Prop :=
  pif (decide ((x5 : Int) < 2)) (B5 P N2 x2 x3 x5 H) (B1 P H)
theorem q6 (P : PT) (N2 : NTy k1 Pr) : QB Tryz.prog T0 17 o6 (cnd 7 (En 17 k1 (B5 P N2)) (En 17 k0 (B1 P))) k1 (B6 P N2) := fun _ _ _ _ _  => by kernel_rfl
def L2 (P : PT) (x2 x3 : Nat) (x5 : Int) (H : AHeap) : Prop :=
  ∃ (I : NTy k1 Pr) (μ : NTy k1 (AHeap → Nat)), I x2 x3 x5 H ∧ ∀ y2 y3 y5 G, I y2 y3 y5 G → B6 P (fun z2 z3 z5 G' => I z2 z3 z5 G' ∧ μ z2 z3 z5 G' < μ y2 y3 y5 G) y2 y3 y5 G
theorem l2 (P : PT) : LQ k1 (L2 P) (B6 P) := fun ⟨_,_,_,_⟩ _ ⟨I, μ, h0, hI⟩ => ⟨apT _ I, apT _ μ, h0, fun ⟨_,_,_,_⟩ _ h => hI _ _ _ _  h⟩
abbrev k2 : Sk := [(2,.x),(3,.x)]
noncomputable def o7 := ob Tryz.f171 [.r,.l,.l]
def B7 (P : PT) (x2 x3 : Nat) (H : AHeap) : Prop :=
  L2 P x2 x3 0 H
theorem q7 (P : PT) : QB Tryz.prog T0 17 o7 (En 17 k1 (L2 P)) k2 (B7 P) := fun _ _ _ _  => by kernel_rfl
abbrev k3 : Sk := [(0,.g [.i,.i]),(1,.g [.i,.i])]
noncomputable def o8 := ob Tryz.f171 [.l]
def B8 (P : PT) (x0a x0b x1a x1b : Int) (H : AHeap) : Prop :=
  newK H [(Value.int .i64 x0a), (Value.int .i64 x0b)] 78 (fun b1 H2 => newK H2 [(Value.int .i64 x1a), (Value.int .i64 x1b)] 78 (fun b3 H4 => B7 P b1 b3 H4))
theorem q8 (P : PT) : QB Tryz.prog T0 17 o8 (En 17 k2 (B7 P)) k3 (B8 P) := fun _ _ _ _ _ _  => by kernel_rfl
noncomputable def code : Code := (.seq (.region 0 ⟨o8⟩ false) (.seq (.seq (.region 1 ⟨o7⟩ false) (.block 0 (.loop (.seq (.seq (.region 2 ⟨o6⟩ false) (.cond (.tmp 7) .skip (.exit 0))) (.seq (.block 1 (.seq (.region 4 ⟨o5⟩ true) (.cond (.tmp 16) (.seq (.region 5 ⟨o4⟩ false) .ret) .skip))) (.region 3 ⟨o3⟩ false)))))) (.seq (.region 6 ⟨o1⟩ false) .ret)))
theorem body : Tryz.f171.body = some code := by kernel_rfl
theorem main (P : PT) : ∀ env H, (En 17 k3 (B8 P)) env H → AW Tryz.prog T0 code env H (mkQ (ret P) (fun _ _ _ => False) (ret P)) :=
  (r_seq (rB T0_ok (q8 P)) (r_seq (r_seq (rB T0_ok (q7 P)) (r_block (rL (l2 P) (fun N2 => (r_seq (r_seq (rB T0_ok (q6 P N2)) (r_cond rfl r_skip (r_exit (fun _ _ h => h)))) (r_seq (r_block (r_seq (rD T0_ok mixed [(0, false), (1, false), (2, false), (3, false), (4, false), (5, false), (6, false)] (by kernel_rfl) (q5 P N2)) (r_cond rfl (r_seq (rB T0_ok (q4 P N2)) r_ret) r_skip))) (rB T0_ok (q3 P N2)))))))) (r_seq (rB T0_ok (q1 P)) r_ret)))
theorem ac (P : PT) (x0a x0b x1a x1b : Int) (H : AHeap) (h : B8 P x0a x0b x1a x1b H) : AC Tryz.prog T0 171 [(Value.agg ⟨[(Value.int .i64 x0a), (Value.int .i64 x0b)]⟩), (Value.agg ⟨[(Value.int .i64 x1a), (Value.int .i64 x1b)]⟩)] H P :=
  r_fn T0_ok (c := code) (n := 17) Tryz.func171 body (by kernel_rfl) (main P) (En_mk (x0a, x0b, x1a, x1b, ()) (by kernel_rfl) ⟨by kernel_rfl, by kernel_rfl, trivial⟩ h)

end F171
-- loop.example/g01329/spec.l01At
namespace F175
noncomputable def ret (P : PT) : EP := retE T0 38 Tryz.f175 P
abbrev k0 : Sk := [(5,.v)]
noncomputable def o1 := ob Tryz.f175 [.r,.r,.r,.l]
def B1 (P : PT) (x5 : Value) (H : AHeap) : Prop :=
  P x5 H
theorem q1 (P : PT) : QB Tryz.prog T0 38 o1 (ret P) k0 (B1 P) := fun _ _ _  => by kernel_rfl
abbrev k1 : Sk := [(1,.i .i64),(2,.x),(5,.v),(6,.i .i64)]
noncomputable def o3 := ob Tryz.f175 [.r,.r,.l,.r,.l,.l,.r,.r]
def B3 (P : PT) (N2 : NTy k1 Pr) (x1 : Int) (x2 : Nat) (x5 : Value) (x6 : Int) (H : AHeap) : Prop :=
  N2 x1 x2 x5 (IntKind.i64.wrap (x6 + 1)) H
theorem q3 (P : PT) (N2 : NTy k1 Pr) : QB Tryz.prog T0 38 o3 (En 38 k1 N2) k1 (B3 P N2) := fun _ _ _ _ _ _  => by kernel_rfl
noncomputable def o4 := ob Tryz.f175 [.r,.r,.l,.r,.l,.l,.r,.l,.l,.r,.l]
def B4 (P : PT) (N2 : NTy k1 Pr) (x1 : Int) (x2 : Nat) (x5 : Value) (x6 : Int) (H : AHeap) : Prop :=
  newK H [(Value.int .i64 x6)] 2 (fun b1 H2 => apK T0 2 H2 x5 (Value.slice (some ⟨b1, 0, none⟩) 1 (1 + 1)) (fun v3 H4 => B3 P N2 x1 x2 v3 x6 H4))
theorem q4 (P : PT) (N2 : NTy k1 Pr) : QB Tryz.prog T0 38 o4 (En 38 k1 (B3 P N2)) k1 (B4 P N2) := fun _ _ _ _ _ _  => by kernel_rfl
noncomputable def o5 := ob Tryz.f175 [.r,.r,.l,.r,.l,.l,.r,.l,.l,.l]
def B5 (P : PT) (N2 : NTy k1 Pr) (x1 : Int) (x2 : Nat) (x5 : Value) (x6 : Int) (H : AHeap) : Prop :=
  ld1 H x2 1 (fun v1 => idxK v1 x6 2 (fun b2 o3 => ldI .i64 H b2 o3 (fun v4 => pif ((v4 : Int) == x1) (B4 P N2 x1 x2 x5 x6 H) (ld1 H x2 1 (fun v5 => idxK v5 x6 2 (fun b6 o7 => ldI .i64 H b6 (o7 + 1) (fun v8 => pif ((v8 : Int) == x1) (B4 P N2 x1 x2 x5 x6 H) (B3 P N2 x1 x2 x5 x6 H))))))))
theorem q5 (P : PT) (N2 : NTy k1 Pr) : QB Tryz.prog T0 38 o5 (cnd 32 (En 38 k1 (B4 P N2)) (En 38 k1 (B3 P N2))) k1 (B5 P N2) := fun _ _ _ _ _ _  => by kernel_rfl
noncomputable def o6 := ob Tryz.f175 [.r,.r,.l,.r,.l,.l,.l,.l]
def B6 (P : PT) (N2 : NTy k1 Pr) (x1 : Int) (x2 : Nat) (x5 : Value) (x6 : Int) (H : AHeap) : Prop :=
  ld1 H x2 1 (fun v1 => lenK v1 (fun n2 => pif (decide ((x6 : Int) < (n2 : Int))) (B5 P N2 x1 x2 x5 x6 H) (B1 P x5 H)))
theorem q6 (P : PT) (N2 : NTy k1 Pr) : QB Tryz.prog T0 38 o6 (cnd 12 (En 38 k1 (B5 P N2)) (En 38 k0 (B1 P))) k1 (B6 P N2) := fun _ _ _ _ _ _  => by kernel_rfl
def L2 (P : PT) (x1 : Int) (x2 : Nat) (x5 : Value) (x6 : Int) (H : AHeap) : Prop :=
  ∃ (I : NTy k1 Pr) (μ : NTy k1 (AHeap → Nat)), I x1 x2 x5 x6 H ∧ ∀ y1 y2 y5 y6 G, I y1 y2 y5 y6 G → B6 P (fun z1 z2 z5 z6 G' => I z1 z2 z5 z6 G' ∧ μ z1 z2 z5 z6 G' < μ y1 y2 y5 y6 G) y1 y2 y5 y6 G
theorem l2 (P : PT) : LQ k1 (L2 P) (B6 P) := fun ⟨_,_,_,_,_⟩ _ ⟨I, μ, h0, hI⟩ => ⟨apT _ I, apT _ μ, h0, fun ⟨_,_,_,_,_⟩ _ h => hI _ _ _ _ _  h⟩
abbrev k2 : Sk := [(1,.i .i64),(2,.x),(5,.v)]
noncomputable def o7 := ob Tryz.f175 [.r,.r,.l,.l]
def B7 (P : PT) (x1 : Int) (x2 : Nat) (x5 : Value) (H : AHeap) : Prop :=
  L2 P x1 x2 x5 0 H
theorem q7 (P : PT) : QB Tryz.prog T0 38 o7 (En 38 k1 (L2 P)) k2 (B7 P) := fun _ _ _ _ _  => by kernel_rfl
abbrev k3 : Sk := [(1,.i .i64),(2,.x)]
noncomputable def o8 := ob Tryz.f175 [.r,.l]
def B8 (P : PT) (x1 : Int) (x2 : Nat) (H : AHeap) : Prop :=
  newK H [] 2 (fun b1 H2 => B7 P x1 x2 (Value.slice (some ⟨b1, 0, none⟩) 0 (0 + 1)) H2)
theorem q8 (P : PT) : QB Tryz.prog T0 38 o8 (En 38 k2 (B7 P)) k3 (B8 P) := fun _ _ _ _  => by kernel_rfl
abbrev k4 : Sk := [(0,.g [.i,.v]),(1,.i .i64)]
noncomputable def o9 := ob Tryz.f175 [.l]
def B9 (P : PT) (x0a : Int) (x0b : Value) (x1 : Int) (H : AHeap) : Prop :=
  newK H [(Value.int .i64 x0a), x0b] 26 (fun b1 H2 => B8 P x1 b1 H2)
theorem q9 (P : PT) : QB Tryz.prog T0 38 o9 (En 38 k3 (B8 P)) k4 (B9 P) := fun _ _ _ _ _  => by kernel_rfl
noncomputable def code : Code := (.seq (.region 0 ⟨o9⟩ false) (.seq (.region 1 ⟨o8⟩ false) (.seq (.seq (.region 2 ⟨o7⟩ false) (.block 0 (.loop (.seq (.seq (.region 3 ⟨o6⟩ false) (.cond (.tmp 12) .skip (.exit 0))) (.seq (.block 1 (.seq (.region 5 ⟨o5⟩ false) (.cond (.tmp 32) (.region 6 ⟨o4⟩ false) .skip))) (.region 4 ⟨o3⟩ false)))))) (.seq (.region 7 ⟨o1⟩ false) .ret))))
theorem body : Tryz.f175.body = some code := by kernel_rfl
theorem main (P : PT) : ∀ env H, (En 38 k4 (B9 P)) env H → AW Tryz.prog T0 code env H (mkQ (ret P) (fun _ _ _ => False) (ret P)) :=
  (r_seq (rB T0_ok (q9 P)) (r_seq (rB T0_ok (q8 P)) (r_seq (r_seq (rB T0_ok (q7 P)) (r_block (rL (l2 P) (fun N2 => (r_seq (r_seq (rB T0_ok (q6 P N2)) (r_cond rfl r_skip (r_exit (fun _ _ h => h)))) (r_seq (r_block (r_seq (rB T0_ok (q5 P N2)) (r_cond rfl (rB T0_ok (q4 P N2)) r_skip))) (rB T0_ok (q3 P N2)))))))) (r_seq (rB T0_ok (q1 P)) r_ret))))
theorem ac (P : PT) (x0a : Int) (x0b : Value) (x1 : Int) (H : AHeap) (h : B9 P x0a x0b x1 H) : AC Tryz.prog T0 175 [(Value.agg ⟨[(Value.int .i64 x0a), x0b]⟩), (Value.int .i64 x1)] H P :=
  r_fn T0_ok (c := code) (n := 38) Tryz.func175 body (by kernel_rfl) (main P) (En_mk (x0a, x0b, x1, ()) (by kernel_rfl) ⟨by kernel_rfl, by kernel_rfl, trivial⟩ h)

end F175
-- loop.example/g01329/impl.areEdges
namespace F183
noncomputable def ret (P : PT) : EP := retE T0 20 Tryz.f183 P
abbrev k0 : Sk := [(1,.v),(2,.x)]
noncomputable def o1 := ob Tryz.f183 [.r,.l]
def B1 (P : PT) (x1 : Value) (x2 : Nat) (H : AHeap) : Prop :=
  ldI .i64 H x2 0 (fun v1 => AC Tryz.prog T0 214 [(Value.int .i64 v1)] H (fun v2 H3 => asB v2 (fun v4 => pif v4 (ldI .i64 H3 x2 0 (fun v5 => AC Tryz.prog T0 73 [x1] H3 (fun v6 H7 => asI .i64 v6 (fun v8 => (AHeap.le H3 H7) ∧ (pif ((v8 : Int) == (IntKind.i64.wrap (Int.tdiv (IntKind.i64.wrap (3 * v5)) 2))) (AC Tryz.prog T0 184 [x1, (Value.func (.func 215) ⟨[]⟩ ⟨[(Value.pointer (some ⟨x2, 0, none⟩))]⟩)] H7 (fun v9 H10 => asB v9 (fun v11 => P (Value.bool v11) H10))) (P (Value.bool false) H7)))))) (P (Value.bool false) H3))))
theorem q1 (P : PT) : QD Tryz.prog T0 20 o1 [(0, false), (1, false), (2, false), (3, false), (5, false), (6, false), (7, false), (4, true), (8, false), (9, false), (10, false), (11, false), (12, false), (13, false), (14, false), (15, false)] (ret P) k0 (B1 P) := fun _ _ _ _  => by kernel_rfl
abbrev k1 : Sk := [(0,.i .i64),(1,.v)]
noncomputable def o2 := ob Tryz.f183 [.l]
def B2 (P : PT) (x0 : Int) (x1 : Value) (H : AHeap) : Prop :=
  newK H [(Value.int .i64 x0)] 2 (fun b1 H2 => B1 P x1 b1 H2)
theorem q2 (P : PT) : QB Tryz.prog T0 20 o2 (En 20 k0 (B1 P)) k1 (B2 P) := fun _ _ _ _  => by kernel_rfl
noncomputable def code : Code := (.seq (.region 0 ⟨o2⟩ false) (.seq (.region 1 ⟨o1⟩ true) .ret))
theorem body : Tryz.f183.body = some code := by kernel_rfl
theorem main (P : PT) : ∀ env H, (En 20 k1 (B2 P)) env H → AW Tryz.prog T0 code env H (mkQ (ret P) (fun _ _ _ => False) (ret P)) :=
  (r_seq (rB T0_ok (q2 P)) (r_seq (rD T0_ok mixed [(0, false), (1, false), (2, false), (3, false), (5, false), (6, false), (7, false), (4, true), (8, false), (9, false), (10, false), (11, false), (12, false), (13, false), (14, false), (15, false)] (by kernel_rfl) (q1 P)) r_ret))
theorem ac (P : PT) (x0 : Int) (x1 : Value) (H : AHeap) (h : B2 P x0 x1 H) : AC Tryz.prog T0 183 [(Value.int .i64 x0), x1] H P :=
  r_fn T0_ok (c := code) (n := 20) Tryz.func183 body (by kernel_rfl) (main P) (En_mk (x0, x1, ()) (by kernel_rfl) ⟨by kernel_rfl, by kernel_rfl, trivial⟩ h)

end F183
-- loop.example/g01329/impl.areAll[loop.example/g01329/impl.Edge]
namespace F184
noncomputable def ret (P : PT) : EP := retE T0 9 Tryz.f184 P
abbrev k0 : Sk := [(0,.v),(3,.x)]
noncomputable def o1 := ob Tryz.f184 [.r,.l]
def B1 (P : PT) (x0 : Value) (x3 : Nat) (H : AHeap) : Prop :=
  AC Tryz.prog T0 216 [x0, (Value.func (.func 217) ⟨[]⟩ ⟨[(Value.pointer (some ⟨x3, 0, none⟩))]⟩)] H (fun v1 H2 => asB v1 (fun v3 => P (Value.bool (!v3)) H2))
theorem q1 (P : PT) : QB Tryz.prog T0 9 o1 (ret P) k0 (B1 P) := fun _ _ _ _  => by kernel_rfl
abbrev k1 : Sk := [(0,.v),(1,.v)]
noncomputable def o2 := ob Tryz.f184 [.l]
def B2 (P : PT) (x0 x1 : Value) (H : AHeap) : Prop :=
  pif (Value.oneCell' x1) (newK H [x1] 166 (fun b1 H2 => B1 P x0 b1 H2)) False
theorem q2 (P : PT) : QB Tryz.prog T0 9 o2 (En 9 k0 (B1 P)) k1 (B2 P) := fun _ _ _ _  => by kernel_rfl
noncomputable def code : Code := (.seq (.region 0 ⟨o2⟩ false) (.seq (.region 1 ⟨o1⟩ false) .ret))
theorem body : Tryz.f184.body = some code := by kernel_rfl
theorem main (P : PT) : ∀ env H, (En 9 k1 (B2 P)) env H → AW Tryz.prog T0 code env H (mkQ (ret P) (fun _ _ _ => False) (ret P)) :=
  (r_seq (rB T0_ok (q2 P)) (r_seq (rB T0_ok (q1 P)) r_ret))
theorem ac (P : PT) (x0 x1 : Value) (H : AHeap) (h : B2 P x0 x1 H) : AC Tryz.prog T0 184 [x0, x1] H P :=
  r_fn T0_ok (c := code) (n := 9) Tryz.func184 body (by kernel_rfl) (main P) (En_mk (x0, x1, ()) (by kernel_rfl) ⟨by kernel_rfl, by kernel_rfl, trivial⟩ h)

end F184
-- loop.example/g01329/impl.IsGraph$1
namespace F185
noncomputable def ret (P : PT) : EP := retE T0 8 Tryz.f185 P
abbrev k0 : Sk := [(1,.x)]
noncomputable def o1 := ob Tryz.f185 [.r,.l]
def B1 (P : PT) (x1 : Nat) (H : AHeap) : Prop :=
  ldI .i64 H x1 0 (fun v1 => ldI .i64 H x1 1 (fun v2 => P (Value.bool (decide ((v1 : Int) < v2))) H))
theorem q1 (P : PT) : QB Tryz.prog T0 8 o1 (ret P) k0 (B1 P) := fun _ _ _  => by kernel_rfl
abbrev k1 : Sk := [(0,.g [.i,.i])]
noncomputable def o2 := ob Tryz.f185 [.l]
def B2 (P : PT) (x0a x0b : Int) (H : AHeap) : Prop :=
  newK H [(Value.int .i64 x0a), (Value.int .i64 x0b)] 78 (fun b1 H2 => B1 P b1 H2)
theorem q2 (P : PT) : QB Tryz.prog T0 8 o2 (En 8 k0 (B1 P)) k1 (B2 P) := fun _ _ _ _  => by kernel_rfl
noncomputable def code : Code := (.seq (.region 0 ⟨o2⟩ false) (.seq (.region 1 ⟨o1⟩ false) .ret))
theorem body : Tryz.f185.body = some code := by kernel_rfl
theorem main (P : PT) : ∀ env H, (En 8 k1 (B2 P)) env H → AW Tryz.prog T0 code env H (mkQ (ret P) (fun _ _ _ => False) (ret P)) :=
  (r_seq (rB T0_ok (q2 P)) (r_seq (rB T0_ok (q1 P)) r_ret))
theorem ac (P : PT) (x0a x0b : Int) (H : AHeap) (h : B2 P x0a x0b H) : AC Tryz.prog T0 185 [(Value.agg ⟨[(Value.int .i64 x0a), (Value.int .i64 x0b)]⟩)] H P :=
  r_fn T0_ok (c := code) (n := 8) Tryz.func185 body (by kernel_rfl) (main P) (En_mk (x0a, x0b, ()) (by kernel_rfl) ⟨by kernel_rfl, trivial⟩ h)

end F185
-- slices.IsSortedFunc[[]loop.example/g01329/impl.Edge,loop.example/g01329/impl.Edge]
namespace F186
noncomputable def ret (P : PT) : EP := retE T0 25 Tryz.f186 P
abbrev k0 : Sk := []
noncomputable def o1 := ob Tryz.f186 [.r,.r,.l]
def B1 (P : PT) (H : AHeap) : Prop :=
  P (Value.bool true) H
theorem q1 (P : PT) : QB Tryz.prog T0 25 o1 (ret P) k0 (B1 P) := fun _ _  => by kernel_rfl
abbrev k1 : Sk := [(0,.v),(1,.v),(5,.i .i64)]
noncomputable def o3 := ob Tryz.f186 [.r,.l,.r,.l,.l,.r,.r]
def B3 (P : PT) (N2 : NTy k1 Pr) (x0 x1 : Value) (x5 : Int) (H : AHeap) : Prop :=
  N2 x0 x1 (IntKind.i64.wrap (x5 - 1)) H
theorem q3 (P : PT) (N2 : NTy k1 Pr) : QB Tryz.prog T0 25 o3 (En 25 k1 N2) k1 (B3 P N2) := fun _ _ _ _ _  => by kernel_rfl
noncomputable def o4 := ob Tryz.f186 [.r,.l,.r,.l,.l,.r,.l,.l,.r,.l,.l]
def B4 (P : PT) (N2 : NTy k1 Pr) (H : AHeap) : Prop :=
  P (Value.bool false) H
theorem q4 (P : PT) (N2 : NTy k1 Pr) : QB Tryz.prog T0 25 o4 (ret P) k0 (B4 P N2) := fun _ _  => by kernel_rfl
noncomputable def o5 := ob Tryz.f186 [.r,.l,.r,.l,.l,.r,.l,.l,.l]
def B5 (P : PT) (N2 : NTy k1 Pr) (x0 x1 : Value) (x5 : Int) (H : AHeap) : Prop :=
  idxK x0 x5 2 (fun b1 o2 => ldI .i64 H b1 o2 (fun v3 => ldI .i64 H b1 (o2 + 1) (fun v4 => idxK x0 (IntKind.i64.wrap (x5 - 1)) 2 (fun b5 o6 => ldI .i64 H b5 o6 (fun v7 => ldI .i64 H b5 (o6 + 1) (fun v8 => callV Tryz.prog T0 x1 [(Value.agg ⟨[(Value.int .i64 v3), (Value.int .i64 v4)]⟩), (Value.agg ⟨[(Value.int .i64 v7), (Value.int .i64 v8)]⟩)] H (fun v9 H10 => asI .i64 v9 (fun v11 => pif (decide ((v11 : Int) < 0)) (B4 P N2 H10) (B3 P N2 x0 x1 x5 H10)))))))))
theorem q5 (P : PT) (N2 : NTy k1 Pr) : QD Tryz.prog T0 25 o5 [(0, false), (1, false), (2, false), (3, false), (4, false), (5, false), (6, false), (7, false), (8, false), (9, false), (10, false), (11, false)] (cnd 24 (En 25 k0 (B4 P N2)) (En 25 k1 (B3 P N2))) k1 (B5 P N2) := fun _ _ _ _ _  => by kernel_rfl
noncomputable def o6 := ob Tryz.f186 [.r,.l,.r,.l,.l,.l,.l]
def B6 (P : PT) (N2 : NTy k1 Pr) (x0 x1 : Value) (x5 : Int) (H : AHeap) : Prop :=
  pif (decide ((x5 : Int) > 0)) (B5 P N2 x0 x1 x5 H) (B1 P H)
theorem q6 (P : PT) (N2 : NTy k1 Pr) : QB Tryz.prog T0 25 o6 (cnd 10 (En 25 k1 (B5 P N2)) (En 25 k0 (B1 P))) k1 (B6 P N2) := fun _ _ _ _ _  => by kernel_rfl
def L2 (P : PT) (x0 x1 : Value) (x5 : Int) (H : AHeap) : Prop :=
  ∃ (I : NTy k1 Pr) (μ : NTy k1 (AHeap → Nat)), I x0 x1 x5 H ∧ ∀ y0 y1 y5 G, I y0 y1 y5 G → B6 P (fun z0 z1 z5 G' => I z0 z1 z5 G' ∧ μ z0 z1 z5 G' < μ y0 y1 y5 G) y0 y1 y5 G
theorem l2 (P : PT) : LQ k1 (L2 P) (B6 P) := fun ⟨_,_,_,_⟩ _ ⟨I, μ, h0, hI⟩ => ⟨apT _ I, apT _ μ, h0, fun ⟨_,_,_,_⟩ _ h => hI _ _ _ _  h⟩
abbrev k2 : Sk := [(0,.v),(1,.v)]
noncomputable def o7 := ob Tryz.f186 [.r,.l,.l]
def B7 (P : PT) (x0 x1 : Value) (H : AHeap) : Prop :=
  lenK x0 (fun n1 => L2 P x0 x1 (IntKind.i64.wrap ((n1 : Int) - 1)) H)
theorem q7 (P : PT) : QB Tryz.prog T0 25 o7 (En 25 k1 (L2 P)) k2 (B7 P) := fun _ _ _ _  => by kernel_rfl
noncomputable def o8 := ob Tryz.f186 [.l]
def B8 (P : PT) (x0 x1 : Value) (H : AHeap) : Prop :=
  B7 P x0 x1 H
theorem q8 (P : PT) : QB Tryz.prog T0 25 o8 (En 25 k2 (B7 P)) k2 (B8 P) := fun _ _ _ _  => by kernel_rfl
noncomputable def code : Code := (.seq (.region 0 ⟨o8⟩ false) (.seq (.seq (.region 1 ⟨o7⟩ false) (.block 0 (.loop (.seq (.seq (.region 2 ⟨o6⟩ false) (.cond (.tmp 10) .skip (.exit 0))) (.seq (.block 1 (.seq (.region 4 ⟨o5⟩ true) (.cond (.tmp 24) (.seq (.region 5 ⟨o4⟩ false) .ret) .skip))) (.region 3 ⟨o3⟩ false)))))) (.seq (.region 6 ⟨o1⟩ false) .ret)))
theorem body : Tryz.f186.body = some code := by kernel_rfl
theorem main (P : PT) : ∀ env H, (En 25 k2 (B8 P)) env H → AW Tryz.prog T0 code env H (mkQ (ret P) (fun _ _ _ => False) (ret P)) :=
  (r_seq (rB T0_ok (q8 P)) (r_seq (r_seq (rB T0_ok (q7 P)) (r_block (rL (l2 P) (fun N2 => (r_seq (r_seq (rB T0_ok (q6 P N2)) (r_cond rfl r_skip (r_exit (fun _ _ h => h)))) (r_seq (r_block (r_seq (rD T0_ok mixed [(0, false), (1, false), (2, false), (3, false), (4, false), (5, false), (6, false), (7, false), (8, false), (9, false), (10, false), (11, false)] (by kernel_rfl) (q5 P N2)) (r_cond rfl (r_seq (rB T0_ok (q4 P N2)) r_ret) r_skip))) (rB T0_ok (q3 P N2)))))))) (r_seq (rB T0_ok (q1 P)) r_ret)))
theorem ac (P : PT) (x0 x1 : Value) (H : AHeap) (h : B8 P x0 x1 H) : AC Tryz.prog T0 186 [x0, x1] H P :=
  r_fn T0_ok (c := code) (n := 25) Tryz.func186 body (by kernel_rfl) (main P) (En_mk (x0, x1, ()) (by kernel_rfl) ⟨by kernel_rfl, by kernel_rfl, trivial⟩ h)

end F186
-- loop.example/g01329/impl.compareEdges
namespace F187
noncomputable def ret (P : PT) : EP := retE T0 8 Tryz.f187 P
abbrev k0 : Sk := [(2,.x),(3,.x)]
noncomputable def o1 := ob Tryz.f187 [.r,.l]
def B1 (P : PT) (x2 x3 : Nat) (H : AHeap) : Prop :=
  AC Tryz.prog T0 170 [(Value.slice (some ⟨x2, 0, none⟩) 2 (2 + 1)), (Value.slice (some ⟨x3, 0, none⟩) 2 (2 + 1))] H (fun v1 H2 => asI .i64 v1 (fun v3 => P (Value.int .i64 v3) H2))
theorem q1 (P : PT) : QD Tryz.prog T0 8 o1 [(0, false), (1, false), (2, false), (3, false)] (ret P) k0 (B1 P) := fun _ _ _ _  => by kernel_rfl
abbrev k1 : Sk := [(0,.g [.i,.i]),(1,.g [.i,.i])]
noncomputable def o2 := ob Tryz.f187 [.l]
def B2 (P : PT) (x0a x0b x1a x1b : Int) (H : AHeap) : Prop :=
  newK H [(Value.int .i64 x0a), (Value.int .i64 x0b)] 78 (fun b1 H2 => newK H2 [(Value.int .i64 x1a), (Value.int .i64 x1b)] 78 (fun b3 H4 => B1 P b1 b3 H4))
theorem q2 (P : PT) : QB Tryz.prog T0 8 o2 (En 8 k0 (B1 P)) k1 (B2 P) := fun _ _ _ _ _ _  => by kernel_rfl
noncomputable def code : Code := (.seq (.region 0 ⟨o2⟩ false) (.seq (.region 1 ⟨o1⟩ true) .ret))
theorem body : Tryz.f187.body = some code := by kernel_rfl
theorem main (P : PT) : ∀ env H, (En 8 k1 (B2 P)) env H → AW Tryz.prog T0 code env H (mkQ (ret P) (fun _ _ _ => False) (ret P)) :=
  (r_seq (rB T0_ok (q2 P)) (r_seq (rD T0_ok mixed [(0, false), (1, false), (2, false), (3, false)] (by kernel_rfl) (q1 P)) r_ret))
theorem ac (P : PT) (x0a x0b x1a x1b : Int) (H : AHeap) (h : B2 P x0a x0b x1a x1b H) : AC Tryz.prog T0 187 [(Value.agg ⟨[(Value.int .i64 x0a), (Value.int .i64 x0b)]⟩), (Value.agg ⟨[(Value.int .i64 x1a), (Value.int .i64 x1b)]⟩)] H P :=
  r_fn T0_ok (c := code) (n := 8) Tryz.func187 body (by kernel_rfl) (main P) (En_mk (x0a, x0b, x1a, x1b, ()) (by kernel_rfl) ⟨by kernel_rfl, by kernel_rfl, trivial⟩ h)

end F187
-- loop.example/g01329/impl.isCubic
namespace F188
noncomputable def ret (P : PT) : EP := retE T0 33 Tryz.f188 P
abbrev k0 : Sk := [(5,.v)]
noncomputable def o1 := ob Tryz.f188 [.r,.r,.r,.l]
def B1 (P : PT) (x5 : Value) (H : AHeap) : Prop :=
  AC Tryz.prog T0 218 [x5, (Value.func (.func 219) ⟨[]⟩ ⟨[]⟩)] H (fun v1 H2 => asB v1 (fun v3 => P (Value.bool v3) H2))
theorem q1 (P : PT) : QB Tryz.prog T0 33 o1 (ret P) k0 (B1 P) := fun _ _ _  => by kernel_rfl
abbrev k1 : Sk := [(5,.v),(10,.v),(11,.i .i64),(12,.i .i64)]
noncomputable def o3 := ob Tryz.f188 [.r,.r,.l,.r,.l,.l,.r,.r,.r]
def B3 (P : PT) (N2 : NTy k1 Pr) (x5 x10 : Value) (x11 x12 : Int) (H : AHeap) : Prop :=
  N2 x5 x10 x11 (IntKind.i64.wrap (x12 + 1)) H
theorem q3 (P : PT) (N2 : NTy k1 Pr) : QB Tryz.prog T0 33 o3 (En 33 k1 N2) k1 (B3 P N2) := fun _ _ _ _ _ _  => by kernel_rfl
abbrev k2 : Sk := [(5,.v),(7,.x),(10,.v),(11,.i .i64),(12,.i .i64)]
noncomputable def o4 := ob Tryz.f188 [.r,.r,.l,.r,.l,.l,.r,.r,.l,.l,.r,.r]
def B4 (P : PT) (N2 : NTy k1 Pr) (x5 : Value) (x7 : Nat) (x10 : Value) (x11 x12 : Int) (H : AHeap) : Prop :=
  ldI .i64 H x7 1 (fun v1 => idxK x5 v1 1 (fun b2 o3 => ldI .i64 H b2 o3 (fun v4 => idxK x5 v1 1 (fun b5 o6 => stK H b5 o6 [(Value.int .i64 (IntKind.i64.wrap (v4 + 1)))] (fun H7 => B3 P N2 x5 x10 x11 x12 H7)))))
theorem q4 (P : PT) (N2 : NTy k1 Pr) : QB Tryz.prog T0 33 o4 (En 33 k1 (B3 P N2)) k2 (B4 P N2) := fun _ _ _ _ _ _ _  => by kernel_rfl
noncomputable def o5 := ob Tryz.f188 [.r,.r,.l,.r,.l,.l,.r,.r,.l,.l,.r,.l]
def B5 (P : PT) (N2 : NTy k1 Pr) (x5 : Value) (x7 : Nat) (x10 : Value) (x11 x12 : Int) (H : AHeap) : Prop :=
  ldI .i64 H x7 0 (fun v1 => idxK x5 v1 1 (fun b2 o3 => ldI .i64 H b2 o3 (fun v4 => idxK x5 v1 1 (fun b5 o6 => stK H b5 o6 [(Value.int .i64 (IntKind.i64.wrap (v4 + 1)))] (fun H7 => B4 P N2 x5 x7 x10 x11 x12 H7)))))
theorem q5 (P : PT) (N2 : NTy k1 Pr) : QB Tryz.prog T0 33 o5 (En 33 k2 (B4 P N2)) k2 (B5 P N2) := fun _ _ _ _ _ _ _  => by kernel_rfl
noncomputable def o6 := ob Tryz.f188 [.r,.r,.l,.r,.l,.l,.r,.r,.l,.l,.l]
def B6 (P : PT) (N2 : NTy k1 Pr) (x5 x10 : Value) (x11 x12 : Int) (H : AHeap) : Prop :=
  idxK x10 x12 2 (fun b1 o2 => ldI .i64 H b1 o2 (fun v3 => ldI .i64 H b1 (o2 + 1) (fun v4 => newK H [(Value.int .i64 0), (Value.int .i64 0)] 78 (fun b5 H6 => stK H6 b5 0 [(Value.int .i64 v3), (Value.int .i64 v4)] (fun H7 => B5 P N2 x5 b5 x10 x11 x12 H7)))))
theorem q6 (P : PT) (N2 : NTy k1 Pr) : QB Tryz.prog T0 33 o6 (En 33 k2 (B5 P N2)) k1 (B6 P N2) := fun _ _ _ _ _ _  => by kernel_rfl
noncomputable def o7 := ob Tryz.f188 [.r,.r,.l,.r,.l,.l,.l]
def B7 (P : PT) (N2 : NTy k1 Pr) (x5 x10 : Value) (x11 x12 : Int) (H : AHeap) : Prop :=
  pif (decide ((x12 : Int) < x11)) (B6 P N2 x5 x10 x11 x12 H) (B1 P x5 H)
theorem q7 (P : PT) (N2 : NTy k1 Pr) : QB Tryz.prog T0 33 o7 (cnd 13 (En 33 k1 (B6 P N2)) (En 33 k0 (B1 P))) k1 (B7 P N2) := fun _ _ _ _ _ _  => by kernel_rfl
def L2 (P : PT) (x5 x10 : Value) (x11 x12 : Int) (H : AHeap) : Prop :=
  ∃ (I : NTy k1 Pr) (μ : NTy k1 (AHeap → Nat)), I x5 x10 x11 x12 H ∧ ∀ y5 y10 y11 y12 G, I y5 y10 y11 y12 G → B7 P (fun z5 z10 z11 z12 G' => I z5 z10 z11 z12 G' ∧ μ z5 z10 z11 z12 G' < μ y5 y10 y11 y12 G) y5 y10 y11 y12 G
theorem l2 (P : PT) : LQ k1 (L2 P) (B7 P) := fun ⟨_,_,_,_,_⟩ _ ⟨I, μ, h0, hI⟩ => ⟨apT _ I, apT _ μ, h0, fun ⟨_,_,_,_,_⟩ _ h => hI _ _ _ _ _  h⟩
abbrev k3 : Sk := [(1,.v),(5,.v)]
noncomputable def o8 := ob Tryz.f188 [.r,.r,.l,.l]
def B8 (P : PT) (x1 x5 : Value) (H : AHeap) : Prop :=
  lenK x1 (fun n1 => L2 P x5 x1 (n1 : Int) 0 H)
theorem q8 (P : PT) : QB Tryz.prog T0 33 o8 (En 33 k1 (L2 P)) k3 (B8 P) := fun _ _ _ _  => by kernel_rfl
abbrev k4 : Sk := [(0,.i .i64),(1,.v)]
noncomputable def o9 := ob Tryz.f188 [.r,.l]
def B9 (P : PT) (x0 : Int) (x1 : Value) (H : AHeap) : Prop :=
  mkR H 8 3 [(Value.int .i64 0)] x0 x0 (fun v2 H1 => B8 P x1 v2 H1)
theorem q9 (P : PT) : QB Tryz.prog T0 33 o9 (En 33 k3 (B8 P)) k4 (B9 P) := fun _ _ _ _  => by kernel_rfl
noncomputable def o10 := ob Tryz.f188 [.l]
def B10 (P : PT) (x0 : Int) (x1 : Value) (H : AHeap) : Prop :=
  B9 P x0 x1 H
theorem q10 (P : PT) : QB Tryz.prog T0 33 o10 (En 33 k4 (B9 P)) k4 (B10 P) := fun _ _ _ _  => by kernel_rfl
noncomputable def code : Code := (.seq (.region 0 ⟨o10⟩ false) (.seq (.region 1 ⟨o9⟩ false) (.seq (.seq (.region 2 ⟨o8⟩ false) (.block 0 (.loop (.seq (.region 3 ⟨o7⟩ false) (.seq (.cond (.tmp 13) .skip (.exit 0)) (.seq (.block 1 (.seq (.region 4 ⟨o6⟩ false) (.seq (.region 5 ⟨o5⟩ false) (.region 6 ⟨o4⟩ false)))) (.region 7 ⟨o3⟩ false))))))) (.seq (.region 8 ⟨o1⟩ false) .ret))))
theorem body : Tryz.f188.body = some code := by kernel_rfl
theorem main (P : PT) : ∀ env H, (En 33 k4 (B10 P)) env H → AW Tryz.prog T0 code env H (mkQ (ret P) (fun _ _ _ => False) (ret P)) :=
  (r_seq (rB T0_ok (q10 P)) (r_seq (rB T0_ok (q9 P)) (r_seq (r_seq (rB T0_ok (q8 P)) (r_block (rL (l2 P) (fun N2 => (r_seq (rB T0_ok (q7 P N2)) (r_seq (r_cond rfl r_skip (r_exit (fun _ _ h => h))) (r_seq (r_block (r_seq (rB T0_ok (q6 P N2)) (r_seq (rB T0_ok (q5 P N2)) (rB T0_ok (q4 P N2))))) (rB T0_ok (q3 P N2))))))))) (r_seq (rB T0_ok (q1 P)) r_ret))))
theorem ac (P : PT) (x0 : Int) (x1 : Value) (H : AHeap) (h : B10 P x0 x1 H) : AC Tryz.prog T0 188 [(Value.int .i64 x0), x1] H P :=
  r_fn T0_ok (c := code) (n := 33) Tryz.func188 body (by kernel_rfl) (main P) (En_mk (x0, x1, ()) (by kernel_rfl) ⟨by kernel_rfl, by kernel_rfl, trivial⟩ h)

end F188
-- loop.example/g01329/spec.l01Other
namespace F191
noncomputable def ret (P : PT) : EP := retE T0 22 Tryz.f191 P
abbrev k0 : Sk := [(1,.i .i64),(2,.i .i64),(3,.x)]
noncomputable def o1 := ob Tryz.f191 [.r,.l]
def B1 (P : PT) (x1 x2 : Int) (x3 : Nat) (H : AHeap) : Prop :=
  ld1 H x3 1 (fun v1 => idxK v1 x1 2 (fun b2 o3 => ldI .i64 H b2 o3 (fun v4 => ld1 H x3 1 (fun v5 => idxK v5 x1 2 (fun b6 o7 => ldI .i64 H b6 (o7 + 1) (fun v8 => P (Value.int .i64 (IntKind.i64.wrap ((IntKind.i64.wrap (v4 + v8)) - x2))) H))))))
theorem q1 (P : PT) : QD Tryz.prog T0 22 o1 [(0, false), (1, false), (2, false), (3, false), (4, false), (5, false), (6, false), (7, false), (8, false), (9, false), (10, false), (11, false), (12, false), (13, false), (14, false), (15, false)] (ret P) k0 (B1 P) := fun _ _ _ _ _  => by kernel_rfl
abbrev k1 : Sk := [(0,.g [.i,.v]),(1,.i .i64),(2,.i .i64)]
noncomputable def o2 := ob Tryz.f191 [.l]
def B2 (P : PT) (x0a : Int) (x0b : Value) (x1 x2 : Int) (H : AHeap) : Prop :=
  newK H [(Value.int .i64 x0a), x0b] 26 (fun b1 H2 => B1 P x1 x2 b1 H2)
theorem q2 (P : PT) : QB Tryz.prog T0 22 o2 (En 22 k0 (B1 P)) k1 (B2 P) := fun _ _ _ _ _ _  => by kernel_rfl
noncomputable def code : Code := (.seq (.region 0 ⟨o2⟩ false) (.seq (.region 1 ⟨o1⟩ true) .ret))
theorem body : Tryz.f191.body = some code := by kernel_rfl
theorem main (P : PT) : ∀ env H, (En 22 k1 (B2 P)) env H → AW Tryz.prog T0 code env H (mkQ (ret P) (fun _ _ _ => False) (ret P)) :=
  (r_seq (rB T0_ok (q2 P)) (r_seq (rD T0_ok mixed [(0, false), (1, false), (2, false), (3, false), (4, false), (5, false), (6, false), (7, false), (8, false), (9, false), (10, false), (11, false), (12, false), (13, false), (14, false), (15, false)] (by kernel_rfl) (q1 P)) r_ret))
theorem ac (P : PT) (x0a : Int) (x0b : Value) (x1 x2 : Int) (H : AHeap) (h : B2 P x0a x0b x1 x2 H) : AC Tryz.prog T0 191 [(Value.agg ⟨[(Value.int .i64 x0a), x0b]⟩), (Value.int .i64 x1), (Value.int .i64 x2)] H P :=
  r_fn T0_ok (c := code) (n := 22) Tryz.func191 body (by kernel_rfl) (main P) (En_mk (x0a, x0b, x1, x2, ()) (by kernel_rfl) ⟨by kernel_rfl, by kernel_rfl, by kernel_rfl, trivial⟩ h)

end F191
-- slices.Repeat[[]int64,int64]
namespace F192
noncomputable def ret (P : PT) : EP := retE T0 48 Tryz.f192 P
abbrev k0 : Sk := [(7,.v)]
noncomputable def o1 := ob Tryz.f192 [.r,.r,.r,.r,.r,.r,.r,.l]
def B1 (P : PT) (x7 : Value) (H : AHeap) : Prop :=
  P x7 H
theorem q1 (P : PT) : QB Tryz.prog T0 48 o1 (ret P) k0 (B1 P) := fun _ _ _  => by kernel_rfl
abbrev k1 : Sk := [(7,.v),(8,.i .i64)]
noncomputable def o3 := ob Tryz.f192 [.r,.r,.r,.r,.r,.r,.l,.l,.l,.r,.l]
def B3 (P : PT) (N2 : NTy k1 Pr) (x7 : Value) (x8 : Int) (H : AHeap) : Prop :=
  sliceK H 2 x7 (some (Value.int .i64 x8)) none 1 (fun v1 => sliceK H 2 x7 none (some (Value.int .i64 x8)) 1 (fun v2 => cpK T0 2 H v1 v2 (fun n3 H4 => N2 x7 (IntKind.i64.wrap (x8 + (n3 : Int))) H4)))
theorem q3 (P : PT) (N2 : NTy k1 Pr) : QD Tryz.prog T0 48 o3 [(0, false), (1, false), (2, false), (3, false), (4, false), (5, false), (6, false), (7, false), (8, false), (9, false)] (En 48 k1 N2) k1 (B3 P N2) := fun _ _ _ _  => by kernel_rfl
noncomputable def o4 := ob Tryz.f192 [.r,.r,.r,.r,.r,.r,.l,.l,.l,.l,.l]
def B4 (P : PT) (N2 : NTy k1 Pr) (x7 : Value) (x8 : Int) (H : AHeap) : Prop :=
  lenK x7 (fun n1 => pif (decide ((x8 : Int) < (n1 : Int))) (B3 P N2 x7 x8 H) (B1 P x7 H))
theorem q4 (P : PT) (N2 : NTy k1 Pr) : QB Tryz.prog T0 48 o4 (cnd 37 (En 48 k1 (B3 P N2)) (En 48 k0 (B1 P))) k1 (B4 P N2) := fun _ _ _ _  => by kernel_rfl
def L2 (P : PT) (x7 : Value) (x8 : Int) (H : AHeap) : Prop :=
  ∃ (I : NTy k1 Pr) (μ : NTy k1 (AHeap → Nat)), I x7 x8 H ∧ ∀ y7 y8 G, I y7 y8 G → B4 P (fun z7 z8 G' => I z7 z8 G' ∧ μ z7 z8 G' < μ y7 y8 G) y7 y8 G
theorem l2 (P : PT) : LQ k1 (L2 P) (B4 P) := fun ⟨_,_,_⟩ _ ⟨I, μ, h0, hI⟩ => ⟨apT _ I, apT _ μ, h0, fun ⟨_,_,_⟩ _ h => hI _ _ _  h⟩
abbrev k2 : Sk := [(0,.v),(7,.v)]
noncomputable def o5 := ob Tryz.f192 [.r,.r,.r,.r,.r,.l]
def B5 (P : PT) (x0 x7 : Value) (H : AHeap) : Prop :=
  cpK T0 2 H x7 x0 (fun n1 H2 => L2 P x7 (n1 : Int) H2)
theorem q5 (P : PT) : QB Tryz.prog T0 48 o5 (En 48 k1 (L2 P)) k2 (B5 P) := fun _ _ _ _  => by kernel_rfl
abbrev k3 : Sk := [(0,.v),(6,.i .u64)]
noncomputable def o6 := ob Tryz.f192 [.r,.r,.r,.r,.l]
def B6 (P : PT) (x0 : Value) (x6 : Int) (H : AHeap) : Prop :=
  mkR H 8 2 [(Value.int .i64 0)] (IntKind.i64.wrap x6) (IntKind.i64.wrap x6) (fun v2 H1 => B5 P x0 v2 H1)
theorem q6 (P : PT) : QB Tryz.prog T0 48 o6 (En 48 k2 (B5 P)) k3 (B6 P) := fun _ _ _ _  => by kernel_rfl
abbrev k4 : Sk := [(0,.v),(5,.i .u64),(6,.i .u64)]
noncomputable def o7 := ob Tryz.f192 [.r,.r,.r,.l,.l]
def B7 (P : PT) (x0 : Value) (x5 x6 : Int) (H : AHeap) : Prop :=
  pif (decide ((x5 : Int) > 0)) (False) (pif (decide ((x6 : Int) > 9223372036854775807)) (False) (B6 P x0 x6 H))
theorem q7 (P : PT) : QB Tryz.prog T0 48 o7 (cnd 26 (fun _ _ => False) (En 48 k3 (B6 P))) k4 (B7 P) := fun _ _ _ _ _  => by kernel_rfl
abbrev k5 : Sk := [(0,.v),(1,.i .i64)]
noncomputable def o8 := ob Tryz.f192 [.r,.r,.l]
def B8 (P : PT) (x0 : Value) (x1 : Int) (H : AHeap) : Prop :=
  lenK x0 (fun n1 => AC Tryz.prog T0 221 [(Value.int .u64 (IntKind.u64.wrap (n1 : Int))), (Value.int .u64 (IntKind.u64.wrap x1))] H (fun v2 H3 => tup2 v2 (fun v4 v5 => asI .u64 v4 (fun v6 => asI .u64 v5 (fun v7 => B7 P x0 v6 v7 H3)))))
theorem q8 (P : PT) : QB Tryz.prog T0 48 o8 (En 48 k4 (B7 P)) k5 (B8 P) := fun _ _ _ _  => by kernel_rfl
noncomputable def o9 := ob Tryz.f192 [.r,.l,.l]
def B9 (P : PT) (x0 : Value) (x1 : Int) (H : AHeap) : Prop :=
  pif (decide ((x1 : Int) < 0)) (False) (B8 P x0 x1 H)
theorem q9 (P : PT) : QB Tryz.prog T0 48 o9 (cnd 10 (fun _ _ => False) (En 48 k5 (B8 P))) k5 (B9 P) := fun _ _ _ _  => by kernel_rfl
noncomputable def o10 := ob Tryz.f192 [.l]
def B10 (P : PT) (x0 : Value) (x1 : Int) (H : AHeap) : Prop :=
  B9 P x0 x1 H
theorem q10 (P : PT) : QB Tryz.prog T0 48 o10 (En 48 k5 (B9 P)) k5 (B10 P) := fun _ _ _ _  => by kernel_rfl
noncomputable def code : Code := (.seq (.region 0 ⟨o10⟩ false) (.seq (.seq (.region 1 ⟨o9⟩ false) (.cond (.tmp 10) (codeAt (bodyOf Tryz.f192) [.r,.l,.r,.l]) .skip)) (.seq (.region 3 ⟨o8⟩ false) (.seq (.seq (.region 4 ⟨o7⟩ false) (.cond (.tmp 26) (codeAt (bodyOf Tryz.f192) [.r,.r,.r,.l,.r,.l]) .skip)) (.seq (.region 6 ⟨o6⟩ false) (.seq (.region 7 ⟨o5⟩ false) (.seq (.block 0 (.loop (.seq (.seq (.region 8 ⟨o4⟩ false) (.cond (.tmp 37) .skip (.exit 0))) (.block 1 (.region 9 ⟨o3⟩ true))))) (.seq (.region 10 ⟨o1⟩ false) .ret))))))))
theorem body : Tryz.f192.body = some code := by kernel_rfl
theorem main (P : PT) : ∀ env H, (En 48 k5 (B10 P)) env H → AW Tryz.prog T0 code env H (mkQ (ret P) (fun _ _ _ => False) (ret P)) :=
  (r_seq (rB T0_ok (q10 P)) (r_seq (r_seq (rB T0_ok (q9 P)) (r_cond rfl r_none r_skip)) (r_seq (rB T0_ok (q8 P)) (r_seq (r_seq (rB T0_ok (q7 P)) (r_cond rfl r_none r_skip)) (r_seq (rB T0_ok (q6 P)) (r_seq (rB T0_ok (q5 P)) (r_seq (r_block (rL (l2 P) (fun N2 => (r_seq (r_seq (rB T0_ok (q4 P N2)) (r_cond rfl r_skip (r_exit (fun _ _ h => h)))) (r_block (rD T0_ok mixed [(0, false), (1, false), (2, false), (3, false), (4, false), (5, false), (6, false), (7, false), (8, false), (9, false)] (by kernel_rfl) (q3 P N2))))))) (r_seq (rB T0_ok (q1 P)) r_ret))))))))
theorem ac (P : PT) (x0 : Value) (x1 : Int) (H : AHeap) (h : B10 P x0 x1 H) : AC Tryz.prog T0 192 [x0, (Value.int .i64 x1)] H P :=
  r_fn T0_ok (c := code) (n := 48) Tryz.func192 body (by kernel_rfl) (main P) (En_mk (x0, x1, ()) (by kernel_rfl) ⟨by kernel_rfl, by kernel_rfl, trivial⟩ h)

end F192
-- (loop.example/g01329/impl.Edge).other
namespace F193
noncomputable def ret (P : PT) : EP := retE T0 12 Tryz.f193 P
abbrev k0 : Sk := [(1,.i .i64),(2,.x)]
noncomputable def o1 := ob Tryz.f193 [.r,.l]
def B1 (P : PT) (x1 : Int) (x2 : Nat) (H : AHeap) : Prop :=
  ldI .i64 H x2 0 (fun v1 => ldI .i64 H x2 1 (fun v2 => P (Value.int .i64 (IntKind.i64.wrap ((IntKind.i64.wrap (v1 + v2)) - x1))) H))
theorem q1 (P : PT) : QB Tryz.prog T0 12 o1 (ret P) k0 (B1 P) := fun _ _ _ _  => by kernel_rfl
abbrev k1 : Sk := [(0,.g [.i,.i]),(1,.i .i64)]
noncomputable def o2 := ob Tryz.f193 [.l]
def B2 (P : PT) (x0a x0b x1 : Int) (H : AHeap) : Prop :=
  newK H [(Value.int .i64 x0a), (Value.int .i64 x0b)] 78 (fun b1 H2 => B1 P x1 b1 H2)
theorem q2 (P : PT) : QB Tryz.prog T0 12 o2 (En 12 k0 (B1 P)) k1 (B2 P) := fun _ _ _ _ _  => by kernel_rfl
noncomputable def code : Code := (.seq (.region 0 ⟨o2⟩ false) (.seq (.region 1 ⟨o1⟩ false) .ret))
theorem body : Tryz.f193.body = some code := by kernel_rfl
theorem main (P : PT) : ∀ env H, (En 12 k1 (B2 P)) env H → AW Tryz.prog T0 code env H (mkQ (ret P) (fun _ _ _ => False) (ret P)) :=
  (r_seq (rB T0_ok (q2 P)) (r_seq (rB T0_ok (q1 P)) r_ret))
theorem ac (P : PT) (x0a x0b x1 : Int) (H : AHeap) (h : B2 P x0a x0b x1 H) : AC Tryz.prog T0 193 [(Value.agg ⟨[(Value.int .i64 x0a), (Value.int .i64 x0b)]⟩), (Value.int .i64 x1)] H P :=
  r_fn T0_ok (c := code) (n := 12) Tryz.func193 body (by kernel_rfl) (main P) (En_mk (x0a, x0b, x1, ()) (by kernel_rfl) ⟨by kernel_rfl, by kernel_rfl, trivial⟩ h)

end F193
-- loop.example/g01329/spec.l07Sort
namespace F194
noncomputable def ret (P : PT) : EP := retE T0 54 Tryz.f194 P
abbrev k0 : Sk := [(3,.v)]
noncomputable def o1 := ob Tryz.f194 [.r,.r,.r,.l]
def B1 (P : PT) (x3 : Value) (H : AHeap) : Prop :=
  P x3 H
theorem q1 (P : PT) : QB Tryz.prog T0 54 o1 (ret P) k0 (B1 P) := fun _ _ _  => by kernel_rfl
abbrev k1 : Sk := [(0,.v),(3,.v),(4,.i .i64)]
noncomputable def o3 := ob Tryz.f194 [.r,.r,.l,.r,.l,.l,.r,.r]
def B3 (P : PT) (N2 : NTy k1 Pr) (x0 x3 : Value) (x4 : Int) (H : AHeap) : Prop :=
  N2 x0 x3 (IntKind.i64.wrap (x4 + 1)) H
theorem q3 (P : PT) (N2 : NTy k1 Pr) : QB Tryz.prog T0 54 o3 (En 54 k1 N2) k1 (B3 P N2) := fun _ _ _ _ _  => by kernel_rfl
abbrev k2 : Sk := [(0,.v),(3,.v),(4,.i .i64),(5,.i .i64)]
noncomputable def o4 := ob Tryz.f194 [.r,.r,.l,.r,.l,.l,.r,.l,.l,.r,.r,.r]
def B4 (P : PT) (N2 : NTy k1 Pr) (x0 x3 : Value) (x4 x5 : Int) (H : AHeap) : Prop :=
  idxK x0 x4 1 (fun b1 o2 => ldI .i64 H b1 o2 (fun v3 => idxK x3 x5 1 (fun b4 o5 => stK H b4 o5 [(Value.int .i64 v3)] (fun H6 => B3 P N2 x0 x3 x4 H6))))
theorem q4 (P : PT) (N2 : NTy k1 Pr) : QB Tryz.prog T0 54 o4 (En 54 k1 (B3 P N2)) k2 (B4 P N2) := fun _ _ _ _ _ _  => by kernel_rfl
noncomputable def o6 := ob Tryz.f194 [.r,.r,.l,.r,.l,.l,.r,.l,.l,.r,.r,.l,.l,.l,.r,.l,.r]
def B6 (P : PT) (N2 : NTy k1 Pr) (N5 : NTy k2 Pr) (x0 x3 : Value) (x4 x5 : Int) (H : AHeap) : Prop :=
  N5 x0 x3 x4 (IntKind.i64.wrap (x5 - 1)) H
theorem q6 (P : PT) (N2 : NTy k1 Pr) (N5 : NTy k2 Pr) : QB Tryz.prog T0 54 o6 (En 54 k2 N5) k2 (B6 P N2 N5) := fun _ _ _ _ _ _  => by kernel_rfl
noncomputable def o7 := ob Tryz.f194 [.r,.r,.l,.r,.l,.l,.r,.l,.l,.r,.r,.l,.l,.l,.r,.l,.l]
def B7 (P : PT) (N2 : NTy k1 Pr) (N5 : NTy k2 Pr) (x0 x3 : Value) (x4 x5 : Int) (H : AHeap) : Prop :=
  idxK x3 (IntKind.i64.wrap (x5 - 1)) 1 (fun b1 o2 => ldI .i64 H b1 o2 (fun v3 => idxK x3 x5 1 (fun b4 o5 => stK H b4 o5 [(Value.int .i64 v3)] (fun H6 => B6 P N2 N5 x0 x3 x4 x5 H6))))
theorem q7 (P : PT) (N2 : NTy k1 Pr) (N5 : NTy k2 Pr) : QB Tryz.prog T0 54 o7 (En 54 k2 (B6 P N2 N5)) k2 (B7 P N2 N5) := fun _ _ _ _ _ _  => by kernel_rfl
noncomputable def o8 := ob Tryz.f194 [.r,.r,.l,.r,.l,.l,.r,.l,.l,.r,.r,.l,.l,.l,.l,.l]
def B8 (P : PT) (N2 : NTy k1 Pr) (N5 : NTy k2 Pr) (x0 x3 : Value) (x4 x5 : Int) (H : AHeap) : Prop :=
  pif (decide ((x5 : Int) > 0)) (idxK x3 (IntKind.i64.wrap (x5 - 1)) 1 (fun b1 o2 => ldI .i64 H b1 o2 (fun v3 => idxK x0 x4 1 (fun b4 o5 => ldI .i64 H b4 o5 (fun v6 => pif (decide ((v3 : Int) > v6)) (B7 P N2 N5 x0 x3 x4 x5 H) (B4 P N2 x0 x3 x4 x5 H)))))) (B4 P N2 x0 x3 x4 x5 H)
theorem q8 (P : PT) (N2 : NTy k1 Pr) (N5 : NTy k2 Pr) : QD Tryz.prog T0 54 o8 [(0, false), (1, false), (2, false), (3, false), (4, false), (5, false), (6, false), (7, false), (8, false), (9, false), (10, false), (11, false), (12, false), (13, false)] (cnd 35 (En 54 k2 (B7 P N2 N5)) (En 54 k2 (B4 P N2))) k2 (B8 P N2 N5) := fun _ _ _ _ _ _  => by kernel_rfl
def L5 (P : PT) (N2 : NTy k1 Pr) (x0 x3 : Value) (x4 x5 : Int) (H : AHeap) : Prop :=
  ∃ (I : NTy k2 Pr) (μ : NTy k2 (AHeap → Nat)), I x0 x3 x4 x5 H ∧ ∀ y0 y3 y4 y5 G, I y0 y3 y4 y5 G → B8 P N2 (fun z0 z3 z4 z5 G' => I z0 z3 z4 z5 G' ∧ μ z0 z3 z4 z5 G' < μ y0 y3 y4 y5 G) y0 y3 y4 y5 G
theorem l5 (P : PT) (N2 : NTy k1 Pr) : LQ k2 (L5 P N2) (B8 P N2) := fun ⟨_,_,_,_,_⟩ _ ⟨I, μ, h0, hI⟩ => ⟨apT _ I, apT _ μ, h0, fun ⟨_,_,_,_,_⟩ _ h => hI _ _ _ _ _  h⟩
noncomputable def o9 := ob Tryz.f194 [.r,.r,.l,.r,.l,.l,.r,.l,.l,.r,.l]
def B9 (P : PT) (N2 : NTy k1 Pr) (x0 x3 : Value) (x4 x5 : Int) (H : AHeap) : Prop :=
  idxK x0 x4 1 (fun b1 o2 => ldI .i64 H b1 o2 (fun v3 => newK H [(Value.int .i64 v3)] 2 (fun b4 H5 => apK T0 2 H5 x3 (Value.slice (some ⟨b4, 0, none⟩) 1 (1 + 1)) (fun v6 H7 => L5 P N2 x0 v6 x4 x5 H7))))
theorem q9 (P : PT) (N2 : NTy k1 Pr) : QB Tryz.prog T0 54 o9 (En 54 k2 (L5 P N2)) k2 (B9 P N2) := fun _ _ _ _ _ _  => by kernel_rfl
noncomputable def o10 := ob Tryz.f194 [.r,.r,.l,.r,.l,.l,.r,.l,.l,.l]
def B10 (P : PT) (N2 : NTy k1 Pr) (x0 x3 : Value) (x4 : Int) (H : AHeap) : Prop :=
  lenK x3 (fun n1 => B9 P N2 x0 x3 x4 (n1 : Int) H)
theorem q10 (P : PT) (N2 : NTy k1 Pr) : QB Tryz.prog T0 54 o10 (En 54 k2 (B9 P N2)) k1 (B10 P N2) := fun _ _ _ _ _  => by kernel_rfl
noncomputable def o11 := ob Tryz.f194 [.r,.r,.l,.r,.l,.l,.l,.l]
def B11 (P : PT) (N2 : NTy k1 Pr) (x0 x3 : Value) (x4 : Int) (H : AHeap) : Prop :=
  lenK x0 (fun n1 => pif (decide ((x4 : Int) < (n1 : Int))) (B10 P N2 x0 x3 x4 H) (B1 P x3 H))
theorem q11 (P : PT) (N2 : NTy k1 Pr) : QB Tryz.prog T0 54 o11 (cnd 10 (En 54 k1 (B10 P N2)) (En 54 k0 (B1 P))) k1 (B11 P N2) := fun _ _ _ _ _  => by kernel_rfl
def L2 (P : PT) (x0 x3 : Value) (x4 : Int) (H : AHeap) : Prop :=
  ∃ (I : NTy k1 Pr) (μ : NTy k1 (AHeap → Nat)), I x0 x3 x4 H ∧ ∀ y0 y3 y4 G, I y0 y3 y4 G → B11 P (fun z0 z3 z4 G' => I z0 z3 z4 G' ∧ μ z0 z3 z4 G' < μ y0 y3 y4 G) y0 y3 y4 G
theorem l2 (P : PT) : LQ k1 (L2 P) (B11 P) := fun ⟨_,_,_,_⟩ _ ⟨I, μ, h0, hI⟩ => ⟨apT _ I, apT _ μ, h0, fun ⟨_,_,_,_⟩ _ h => hI _ _ _ _  h⟩
abbrev k3 : Sk := [(0,.v),(3,.v)]
noncomputable def o12 := ob Tryz.f194 [.r,.r,.l,.l]
def B12 (P : PT) (x0 x3 : Value) (H : AHeap) : Prop :=
  L2 P x0 x3 0 H
theorem q12 (P : PT) : QB Tryz.prog T0 54 o12 (En 54 k1 (L2 P)) k3 (B12 P) := fun _ _ _ _  => by kernel_rfl
abbrev k4 : Sk := [(0,.v)]
noncomputable def o13 := ob Tryz.f194 [.r,.l]
def B13 (P : PT) (x0 : Value) (H : AHeap) : Prop :=
  newK H [] 2 (fun b1 H2 => B12 P x0 (Value.slice (some ⟨b1, 0, none⟩) 0 (0 + 1)) H2)
theorem q13 (P : PT) : QB Tryz.prog T0 54 o13 (En 54 k3 (B12 P)) k4 (B13 P) := fun _ _ _  => by kernel_rfl
noncomputable def o14 := ob Tryz.f194 [.l]
def B14 (P : PT) (x0 : Value) (H : AHeap) : Prop :=
  B13 P x0 H
theorem q14 (P : PT) : QB Tryz.prog T0 54 o14 (En 54 k4 (B13 P)) k4 (B14 P) := fun _ _ _  => by kernel_rfl
noncomputable def code : Code := (.seq (.region 0 ⟨o14⟩ false) (.seq (.region 1 ⟨o13⟩ false) (.seq (.seq (.region 2 ⟨o12⟩ false) (.block 0 (.loop (.seq (.seq (.region 3 ⟨o11⟩ false) (.cond (.tmp 10) .skip (.exit 0))) (.seq (.block 1 (.seq (.region 5 ⟨o10⟩ false) (.seq (.region 6 ⟨o9⟩ false) (.seq (.block 2 (.loop (.seq (.seq (.region 7 ⟨o8⟩ true) (.cond (.tmp 35) .skip (.exit 2))) (.block 3 (.seq (.region 8 ⟨o7⟩ false) (.region 9 ⟨o6⟩ false)))))) (.region 10 ⟨o4⟩ false))))) (.region 4 ⟨o3⟩ false)))))) (.seq (.region 11 ⟨o1⟩ false) .ret))))
theorem body : Tryz.f194.body = some code := by kernel_rfl
theorem main (P : PT) : ∀ env H, (En 54 k4 (B14 P)) env H → AW Tryz.prog T0 code env H (mkQ (ret P) (fun _ _ _ => False) (ret P)) :=
  (r_seq (rB T0_ok (q14 P)) (r_seq (rB T0_ok (q13 P)) (r_seq (r_seq (rB T0_ok (q12 P)) (r_block (rL (l2 P) (fun N2 => (r_seq (r_seq (rB T0_ok (q11 P N2)) (r_cond rfl r_skip (r_exit (fun _ _ h => h)))) (r_seq (r_block (r_seq (rB T0_ok (q10 P N2)) (r_seq (rB T0_ok (q9 P N2)) (r_seq (r_block (rL (l5 P N2) (fun N5 => (r_seq (r_seq (rD T0_ok mixed [(0, false), (1, false), (2, false), (3, false), (4, false), (5, false), (6, false), (7, false), (8, false), (9, false), (10, false), (11, false), (12, false), (13, false)] (by kernel_rfl) (q8 P N2 N5)) (r_cond rfl r_skip (r_exit (fun _ _ h => h)))) (r_block (r_seq (rB T0_ok (q7 P N2 N5)) (rB T0_ok (q6 P N2 N5)))))))) (rB T0_ok (q4 P N2)))))) (rB T0_ok (q3 P N2)))))))) (r_seq (rB T0_ok (q1 P)) r_ret))))
theorem ac (P : PT) (x0 : Value) (H : AHeap) (h : B14 P x0 H) : AC Tryz.prog T0 194 [x0] H P :=
  r_fn T0_ok (c := code) (n := 54) Tryz.func194 body (by kernel_rfl) (main P) (En_mk (x0, ()) (by kernel_rfl) ⟨by kernel_rfl, trivial⟩ h)

end F194
-- (loop.example/g01329/impl.Edge).isOn
namespace F195
noncomputable def ret (P : PT) : EP := retE T0 15 Tryz.f195 P
abbrev k0 : Sk := [(1,.i .i64),(2,.x)]
noncomputable def o1 := ob Tryz.f195 [.r,.l]
def B1 (P : PT) (x1 : Int) (x2 : Nat) (H : AHeap) : Prop :=
  ldI .i64 H x2 0 (fun v1 => pif ((v1 : Int) == x1) (P (Value.bool true) H) (ldI .i64 H x2 1 (fun v2 => P (Value.bool ((v2 : Int) == x1)) H)))
theorem q1 (P : PT) : QB Tryz.prog T0 15 o1 (ret P) k0 (B1 P) := fun _ _ _ _  => by kernel_rfl
abbrev k1 : Sk := [(0,.g [.i,.i]),(1,.i .i64)]
noncomputable def o2 := ob Tryz.f195 [.l]
def B2 (P : PT) (x0a x0b x1 : Int) (H : AHeap) : Prop :=
  newK H [(Value.int .i64 x0a), (Value.int .i64 x0b)] 78 (fun b1 H2 => B1 P x1 b1 H2)
theorem q2 (P : PT) : QB Tryz.prog T0 15 o2 (En 15 k0 (B1 P)) k1 (B2 P) := fun _ _ _ _ _  => by kernel_rfl
noncomputable def code : Code := (.seq (.region 0 ⟨o2⟩ false) (.seq (.region 1 ⟨o1⟩ false) .ret))
theorem body : Tryz.f195.body = some code := by kernel_rfl
theorem main (P : PT) : ∀ env H, (En 15 k1 (B2 P)) env H → AW Tryz.prog T0 code env H (mkQ (ret P) (fun _ _ _ => False) (ret P)) :=
  (r_seq (rB T0_ok (q2 P)) (r_seq (rB T0_ok (q1 P)) r_ret))
theorem ac (P : PT) (x0a x0b x1 : Int) (H : AHeap) (h : B2 P x0a x0b x1 H) : AC Tryz.prog T0 195 [(Value.agg ⟨[(Value.int .i64 x0a), (Value.int .i64 x0b)]⟩), (Value.int .i64 x1)] H P :=
  r_fn T0_ok (c := code) (n := 15) Tryz.func195 body (by kernel_rfl) (main P) (En_mk (x0a, x0b, x1, ()) (by kernel_rfl) ⟨by kernel_rfl, by kernel_rfl, trivial⟩ h)

end F195
-- math/bits.OnesCount64
namespace F196
noncomputable def ret (P : PT) : EP := retE T0 35 Tryz.f196 P
abbrev k0 : Sk := [(0,.i .u64)]
noncomputable def o1 := ob Tryz.f196 [.r,.r,.r,.r,.r,.r,.r,.l]
def B1 (P : PT) (x0 : Int) (H : AHeap) : Prop :=
  P (Value.int .i64 (IntKind.i64.wrap (BitVec.ofInt 64 (IntKind.i64.wrap x0) &&& BitVec.ofInt 64 127).toNat)) H
theorem q1 (P : PT) : QB Tryz.prog T0 35 o1 (ret P) k0 (B1 P) := fun _ _ _  => by kernel_rfl
noncomputable def o2 := ob Tryz.f196 [.r,.r,.r,.r,.r,.r,.l]
def B2 (P : PT) (x0 : Int) (H : AHeap) : Prop :=
  ((0 : Int) ≤ 32) ∧ (B1 P (IntKind.u64.wrap (x0 + (Int.fdiv x0 (2 ^ (min (Int.toNat 32) 64))))) H)
theorem q2 (P : PT) : QB Tryz.prog T0 35 o2 (En 35 k0 (B1 P)) k0 (B2 P) := fun _ _ _  => by kernel_rfl
noncomputable def o3 := ob Tryz.f196 [.r,.r,.r,.r,.r,.l]
def B3 (P : PT) (x0 : Int) (H : AHeap) : Prop :=
  ((0 : Int) ≤ 16) ∧ (B2 P (IntKind.u64.wrap (x0 + (Int.fdiv x0 (2 ^ (min (Int.toNat 16) 64))))) H)
theorem q3 (P : PT) : QB Tryz.prog T0 35 o3 (En 35 k0 (B2 P)) k0 (B3 P) := fun _ _ _  => by kernel_rfl
noncomputable def o4 := ob Tryz.f196 [.r,.r,.r,.r,.l]
def B4 (P : PT) (x0 : Int) (H : AHeap) : Prop :=
  ((0 : Int) ≤ 8) ∧ (B3 P (IntKind.u64.wrap (x0 + (Int.fdiv x0 (2 ^ (min (Int.toNat 8) 64))))) H)
theorem q4 (P : PT) : QB Tryz.prog T0 35 o4 (En 35 k0 (B3 P)) k0 (B4 P) := fun _ _ _  => by kernel_rfl
noncomputable def o5 := ob Tryz.f196 [.r,.r,.r,.l]
def B5 (P : PT) (x0 : Int) (H : AHeap) : Prop :=
  ((0 : Int) ≤ 4) ∧ (B4 P (IntKind.u64.wrap (BitVec.ofInt 64 (IntKind.u64.wrap ((Int.fdiv x0 (2 ^ (min (Int.toNat 4) 64))) + x0)) &&& BitVec.ofInt 64 1085102592571150095).toNat) H)
theorem q5 (P : PT) : QB Tryz.prog T0 35 o5 (En 35 k0 (B4 P)) k0 (B5 P) := fun _ _ _  => by kernel_rfl
noncomputable def o6 := ob Tryz.f196 [.r,.r,.l]
def B6 (P : PT) (x0 : Int) (H : AHeap) : Prop :=
  ((0 : Int) ≤ 2) ∧ (B5 P (IntKind.u64.wrap ((IntKind.u64.wrap (BitVec.ofInt 64 (Int.fdiv x0 (2 ^ (min (Int.toNat 2) 64))) &&& BitVec.ofInt 64 3689348814741910323).toNat) + (IntKind.u64.wrap (BitVec.ofInt 64 x0 &&& BitVec.ofInt 64 3689348814741910323).toNat))) H)
theorem q6 (P : PT) : QB Tryz.prog T0 35 o6 (En 35 k0 (B5 P)) k0 (B6 P) := fun _ _ _  => by kernel_rfl
noncomputable def o7 := ob Tryz.f196 [.r,.l]
def B7 (P : PT) (x0 : Int) (H : AHeap) : Prop :=
  ((0 : Int) ≤ 1) ∧ (B6 P (IntKind.u64.wrap ((IntKind.u64.wrap (BitVec.ofInt 64 (Int.fdiv x0 (2 ^ (min (Int.toNat 1) 64))) &&& BitVec.ofInt 64 6148914691236517205).toNat) + (IntKind.u64.wrap (BitVec.ofInt 64 x0 &&& BitVec.ofInt 64 6148914691236517205).toNat))) H)
theorem q7 (P : PT) : QB Tryz.prog T0 35 o7 (En 35 k0 (B6 P)) k0 (B7 P) := fun _ _ _  => by kernel_rfl
noncomputable def o8 := ob Tryz.f196 [.l]
def B8 (P : PT) (x0 : Int) (H : AHeap) : Prop :=
  B7 P x0 H
theorem q8 (P : PT) : QB Tryz.prog T0 35 o8 (En 35 k0 (B7 P)) k0 (B8 P) := fun _ _ _  => by kernel_rfl
noncomputable def code : Code := (.seq (.region 0 ⟨o8⟩ false) (.seq (.region 1 ⟨o7⟩ false) (.seq (.region 2 ⟨o6⟩ false) (.seq (.region 3 ⟨o5⟩ false) (.seq (.region 4 ⟨o4⟩ false) (.seq (.region 5 ⟨o3⟩ false) (.seq (.region 6 ⟨o2⟩ false) (.seq (.region 7 ⟨o1⟩ false) .ret))))))))
theorem body : Tryz.f196.body = some code := by kernel_rfl
theorem main (P : PT) : ∀ env H, (En 35 k0 (B8 P)) env H → AW Tryz.prog T0 code env H (mkQ (ret P) (fun _ _ _ => False) (ret P)) :=
  (r_seq (rB T0_ok (q8 P)) (r_seq (rB T0_ok (q7 P)) (r_seq (rB T0_ok (q6 P)) (r_seq (rB T0_ok (q5 P)) (r_seq (rB T0_ok (q4 P)) (r_seq (rB T0_ok (q3 P)) (r_seq (rB T0_ok (q2 P)) (r_seq (rB T0_ok (q1 P)) r_ret))))))))
theorem ac (P : PT) (x0 : Int) (H : AHeap) (h : B8 P x0 H) : AC Tryz.prog T0 196 [(Value.int .u64 x0)] H P :=
  r_fn T0_ok (c := code) (n := 35) Tryz.func196 body (by kernel_rfl) (main P) (En_mk (x0, ()) (by kernel_rfl) ⟨by kernel_rfl, trivial⟩ h)

end F196
-- slices.ContainsFunc[[]loop.example/g01329/impl.set,loop.example/g01329/impl.set]
namespace F197
noncomputable def ret (P : PT) : EP := retE T0 9 Tryz.f197 P
abbrev k0 : Sk := [(0,.v),(1,.v)]
noncomputable def o1 := ob Tryz.f197 [.r,.l]
def B1 (P : PT) (x0 x1 : Value) (H : AHeap) : Prop :=
  AC Tryz.prog T0 163 [x0, x1] H (fun v1 H2 => asI .i64 v1 (fun v3 => P (Value.bool (decide ((v3 : Int) ≥ 0))) H2))
theorem q1 (P : PT) : QB Tryz.prog T0 9 o1 (ret P) k0 (B1 P) := fun _ _ _ _  => by kernel_rfl
noncomputable def o2 := ob Tryz.f197 [.l]
def B2 (P : PT) (x0 x1 : Value) (H : AHeap) : Prop :=
  B1 P x0 x1 H
theorem q2 (P : PT) : QB Tryz.prog T0 9 o2 (En 9 k0 (B1 P)) k0 (B2 P) := fun _ _ _ _  => by kernel_rfl
noncomputable def code : Code := (.seq (.region 0 ⟨o2⟩ false) (.seq (.region 1 ⟨o1⟩ false) .ret))
theorem body : Tryz.f197.body = some code := by kernel_rfl
theorem main (P : PT) : ∀ env H, (En 9 k0 (B2 P)) env H → AW Tryz.prog T0 code env H (mkQ (ret P) (fun _ _ _ => False) (ret P)) :=
  (r_seq (rB T0_ok (q2 P)) (r_seq (rB T0_ok (q1 P)) r_ret))
theorem ac (P : PT) (x0 x1 : Value) (H : AHeap) (h : B2 P x0 x1 H) : AC Tryz.prog T0 197 [x0, x1] H P :=
  r_fn T0_ok (c := code) (n := 9) Tryz.func197 body (by kernel_rfl) (main P) (En_mk (x0, x1, ()) (by kernel_rfl) ⟨by kernel_rfl, by kernel_rfl, trivial⟩ h)

end F197
-- (loop.example/g01329/impl.Graph).cycles$1
namespace F198
noncomputable def ret (P : PT) : EP := retE T0 7 Tryz.f198 P
abbrev k0 : Sk := [(0,.i .u64),(1,.v)]
noncomputable def o1 := ob Tryz.f198 [.r,.l]
def B1 (P : PT) (x0 : Int) (x1 : Value) (H : AHeap) : Prop :=
  asP x1 (fun b1 o2 => ldI .i64 H b1 o2 (fun v3 => AC Tryz.prog T0 134 [(Value.int .u64 x0), (Value.int .i64 v3)] H (fun v4 H5 => asB v4 (fun v6 => P (Value.bool v6) H5))))
theorem q1 (P : PT) : QB Tryz.prog T0 7 o1 (ret P) k0 (B1 P) := fun _ _ _ _  => by kernel_rfl
noncomputable def o2 := ob Tryz.f198 [.l]
def B2 (P : PT) (x0 : Int) (x1 : Value) (H : AHeap) : Prop :=
  B1 P x0 x1 H
theorem q2 (P : PT) : QB Tryz.prog T0 7 o2 (En 7 k0 (B1 P)) k0 (B2 P) := fun _ _ _ _  => by kernel_rfl
noncomputable def code : Code := (.seq (.region 0 ⟨o2⟩ false) (.seq (.region 1 ⟨o1⟩ false) .ret))
theorem body : Tryz.f198.body = some code := by kernel_rfl
theorem main (P : PT) : ∀ env H, (En 7 k0 (B2 P)) env H → AW Tryz.prog T0 code env H (mkQ (ret P) (fun _ _ _ => False) (ret P)) :=
  (r_seq (rB T0_ok (q2 P)) (r_seq (rB T0_ok (q1 P)) r_ret))
theorem ac (P : PT) (x0 : Int) (x1 : Value) (H : AHeap) (h : B2 P x0 x1 H) : AC Tryz.prog T0 198 [(Value.int .u64 x0), x1] H P :=
  r_fn T0_ok (c := code) (n := 7) Tryz.func198 body (by kernel_rfl) (main P) (En_mk (x0, x1, ()) (by kernel_rfl) ⟨by kernel_rfl, by kernel_rfl, trivial⟩ h)

end F198
-- slices.insertionSortCmpFunc[loop.example/g01329/impl.set]
namespace F199
noncomputable def ret (P : PT) : EP := retE T0 53 Tryz.f199 P
abbrev k0 : Sk := [(0,.v),(1,.i .i64),(2,.i .i64),(3,.v),(8,.i .i64)]
noncomputable def o2 := ob Tryz.f199 [.r,.l,.l,.r,.r]
def B2 (P : PT) (N1 : NTy k0 Pr) (x0 : Value) (x1 x2 : Int) (x3 : Value) (x8 : Int) (H : AHeap) : Prop :=
  N1 x0 x1 x2 x3 (IntKind.i64.wrap (x8 + 1)) H
theorem q2 (P : PT) (N1 : NTy k0 Pr) : QB Tryz.prog T0 53 o2 (En 53 k0 N1) k0 (B2 P N1) := fun _ _ _ _ _ _ _  => by kernel_rfl
abbrev k1 : Sk := [(0,.v),(1,.i .i64),(2,.i .i64),(3,.v),(8,.i .i64),(9,.i .i64)]
noncomputable def o4 := ob Tryz.f199 [.r,.l,.l,.r,.l,.l,.r,.l,.l,.r,.r]
def B4 (P : PT) (N1 : NTy k0 Pr) (N3 : NTy k1 Pr) (x0 : Value) (x1 x2 : Int) (x3 : Value) (x8 x9 : Int) (H : AHeap) : Prop :=
  N3 x0 x1 x2 x3 x8 (IntKind.i64.wrap (x9 - 1)) H
theorem q4 (P : PT) (N1 : NTy k0 Pr) (N3 : NTy k1 Pr) : QB Tryz.prog T0 53 o4 (En 53 k1 N3) k1 (B4 P N1 N3) := fun _ _ _ _ _ _ _ _  => by kernel_rfl
noncomputable def o5 := ob Tryz.f199 [.r,.l,.l,.r,.l,.l,.r,.l,.l,.r,.l,.l]
def B5 (P : PT) (N1 : NTy k0 Pr) (N3 : NTy k1 Pr) (x0 : Value) (x1 x2 : Int) (x3 : Value) (x8 x9 : Int) (H : AHeap) : Prop :=
  idxK x0 (IntKind.i64.wrap (x9 - 1)) 1 (fun b1 o2 => ldI .u64 H b1 o2 (fun v3 => idxK x0 x9 1 (fun b4 o5 => ldI .u64 H b4 o5 (fun v6 => idxK x0 x9 1 (fun b7 o8 => stK H b7 o8 [(Value.int .u64 v3)] (fun H9 => idxK x0 (IntKind.i64.wrap (x9 - 1)) 1 (fun b10 o11 => stK H9 b10 o11 [(Value.int .u64 v6)] (fun H12 => B4 P N1 N3 x0 x1 x2 x3 x8 x9 H12))))))))
theorem q5 (P : PT) (N1 : NTy k0 Pr) (N3 : NTy k1 Pr) : QD Tryz.prog T0 53 o5 [(0, false), (1, false), (2, false), (3, false), (4, false), (5, false), (6, false), (7, false), (8, false), (9, false), (10, false), (11, false), (12, false), (13, false), (14, false), (15, false), (16, false), (17, false)] (En 53 k1 (B4 P N1 N3)) k1 (B5 P N1 N3) := fun _ _ _ _ _ _ _ _  => by kernel_rfl
noncomputable def o6 := ob Tryz.f199 [.r,.l,.l,.r,.l,.l,.r,.l,.l,.l,.l]
def B6 (P : PT) (N1 : NTy k0 Pr) (N3 : NTy k1 Pr) (x0 : Value) (x1 x2 : Int) (x3 : Value) (x8 x9 : Int) (H : AHeap) : Prop :=
  pif (decide ((x9 : Int) > x1)) (idxK x0 x9 1 (fun b1 o2 => ldI .u64 H b1 o2 (fun v3 => idxK x0 (IntKind.i64.wrap (x9 - 1)) 1 (fun b4 o5 => ldI .u64 H b4 o5 (fun v6 => callV Tryz.prog T0 x3 [(Value.int .u64 v3), (Value.int .u64 v6)] H (fun v7 H8 => asI .i64 v7 (fun v9 => pif (decide ((v9 : Int) < 0)) (B5 P N1 N3 x0 x1 x2 x3 x8 x9 H8) (B2 P N1 x0 x1 x2 x3 x8 H8)))))))) (B2 P N1 x0 x1 x2 x3 x8 H)
theorem q6 (P : PT) (N1 : NTy k0 Pr) (N3 : NTy k1 Pr) : QD Tryz.prog T0 53 o6 [(0, false), (1, false), (2, false), (3, false), (4, false), (5, false), (6, false), (7, false), (8, false), (9, false), (10, false), (11, false), (12, false), (13, false), (14, false), (15, false), (16, false)] (cnd 34 (En 53 k1 (B5 P N1 N3)) (En 53 k0 (B2 P N1))) k1 (B6 P N1 N3) := fun _ _ _ _ _ _ _ _  => by kernel_rfl
def L3 (P : PT) (N1 : NTy k0 Pr) (x0 : Value) (x1 x2 : Int) (x3 : Value) (x8 x9 : Int) (H : AHeap) : Prop :=
  ∃ (I : NTy k1 Pr) (μ : NTy k1 (AHeap → Nat)), I x0 x1 x2 x3 x8 x9 H ∧ ∀ y0 y1 y2 y3 y8 y9 G, I y0 y1 y2 y3 y8 y9 G → B6 P N1 (fun z0 z1 z2 z3 z8 z9 G' => I z0 z1 z2 z3 z8 z9 G' ∧ μ z0 z1 z2 z3 z8 z9 G' < μ y0 y1 y2 y3 y8 y9 G) y0 y1 y2 y3 y8 y9 G
theorem l3 (P : PT) (N1 : NTy k0 Pr) : LQ k1 (L3 P N1) (B6 P N1) := fun ⟨_,_,_,_,_,_,_⟩ _ ⟨I, μ, h0, hI⟩ => ⟨apT _ I, apT _ μ, h0, fun ⟨_,_,_,_,_,_,_⟩ _ h => hI _ _ _ _ _ _ _  h⟩
noncomputable def o7 := ob Tryz.f199 [.r,.l,.l,.r,.l,.l,.l]
def B7 (P : PT) (N1 : NTy k0 Pr) (x0 : Value) (x1 x2 : Int) (x3 : Value) (x8 : Int) (H : AHeap) : Prop :=
  L3 P N1 x0 x1 x2 x3 x8 x8 H
theorem q7 (P : PT) (N1 : NTy k0 Pr) : QB Tryz.prog T0 53 o7 (En 53 k1 (L3 P N1)) k0 (B7 P N1) := fun _ _ _ _ _ _ _  => by kernel_rfl
noncomputable def o8 := ob Tryz.f199 [.r,.l,.l,.l,.l]
def B8 (P : PT) (N1 : NTy k0 Pr) (x0 : Value) (x1 x2 : Int) (x3 : Value) (x8 : Int) (H : AHeap) : Prop :=
  pif (decide ((x8 : Int) < x2)) (B7 P N1 x0 x1 x2 x3 x8 H) (P (Value.tuple ⟨[]⟩) H)
theorem q8 (P : PT) (N1 : NTy k0 Pr) : QB Tryz.prog T0 53 o8 (cnd 14 (En 53 k0 (B7 P N1)) (ret P)) k0 (B8 P N1) := fun _ _ _ _ _ _ _  => by kernel_rfl
def L1 (P : PT) (x0 : Value) (x1 x2 : Int) (x3 : Value) (x8 : Int) (H : AHeap) : Prop :=
  ∃ (I : NTy k0 Pr) (μ : NTy k0 (AHeap → Nat)), I x0 x1 x2 x3 x8 H ∧ ∀ y0 y1 y2 y3 y8 G, I y0 y1 y2 y3 y8 G → B8 P (fun z0 z1 z2 z3 z8 G' => I z0 z1 z2 z3 z8 G' ∧ μ z0 z1 z2 z3 z8 G' < μ y0 y1 y2 y3 y8 G) y0 y1 y2 y3 y8 G
theorem l1 (P : PT) : LQ k0 (L1 P) (B8 P) := fun ⟨_,_,_,_,_,_⟩ _ ⟨I, μ, h0, hI⟩ => ⟨apT _ I, apT _ μ, h0, fun ⟨_,_,_,_,_,_⟩ _ h => hI _ _ _ _ _ _  h⟩
abbrev k2 : Sk := [(0,.v),(1,.i .i64),(2,.i .i64),(3,.v)]
noncomputable def o9 := ob Tryz.f199 [.l]
def B9 (P : PT) (x0 : Value) (x1 x2 : Int) (x3 : Value) (H : AHeap) : Prop :=
  L1 P x0 x1 x2 x3 (IntKind.i64.wrap (x1 + 1)) H
theorem q9 (P : PT) : QB Tryz.prog T0 53 o9 (En 53 k0 (L1 P)) k2 (B9 P) := fun _ _ _ _ _ _  => by kernel_rfl
noncomputable def code : Code := (.seq (.region 0 ⟨o9⟩ false) (.block 0 (.loop (.seq (.seq (.region 1 ⟨o8⟩ false) (.cond (.tmp 14) .skip (.exit 0))) (.seq (.block 1 (.seq (.region 3 ⟨o7⟩ false) (.block 2 (.loop (.seq (.seq (.region 4 ⟨o6⟩ true) (.cond (.tmp 34) .skip (.exit 2))) (.seq (.block 3 (.region 6 ⟨o5⟩ true)) (.region 5 ⟨o4⟩ false))))))) (.region 2 ⟨o2⟩ false))))))
theorem body : Tryz.f199.body = some code := by kernel_rfl
theorem main (P : PT) : ∀ env H, (En 53 k2 (B9 P)) env H → AW Tryz.prog T0 code env H (mkQ (ret P) (fun _ _ _ => False) (ret P)) :=
  (r_seq (rB T0_ok (q9 P)) (r_block (rL (l1 P) (fun N1 => (r_seq (r_seq (rB T0_ok (q8 P N1)) (r_cond rfl r_skip (r_exit (fun _ _ h => h)))) (r_seq (r_block (r_seq (rB T0_ok (q7 P N1)) (r_block (rL (l3 P N1) (fun N3 => (r_seq (r_seq (rD T0_ok mixed [(0, false), (1, false), (2, false), (3, false), (4, false), (5, false), (6, false), (7, false), (8, false), (9, false), (10, false), (11, false), (12, false), (13, false), (14, false), (15, false), (16, false)] (by kernel_rfl) (q6 P N1 N3)) (r_cond rfl r_skip (r_exit (fun _ _ h => h)))) (r_seq (r_block (rD T0_ok mixed [(0, false), (1, false), (2, false), (3, false), (4, false), (5, false), (6, false), (7, false), (8, false), (9, false), (10, false), (11, false), (12, false), (13, false), (14, false), (15, false), (16, false), (17, false)] (by kernel_rfl) (q5 P N1 N3))) (rB T0_ok (q4 P N1 N3))))))))) (rB T0_ok (q2 P N1))))))))
theorem ac (P : PT) (x0 : Value) (x1 x2 : Int) (x3 : Value) (H : AHeap) (h : B9 P x0 x1 x2 x3 H) : AC Tryz.prog T0 199 [x0, (Value.int .i64 x1), (Value.int .i64 x2), x3] H P :=
  r_fn T0_ok (c := code) (n := 53) Tryz.func199 body (by kernel_rfl) (main P) (En_mk (x0, x1, x2, x3, ()) (by kernel_rfl) ⟨by kernel_rfl, by kernel_rfl, by kernel_rfl, by kernel_rfl, trivial⟩ h)

end F199
-- slices.heapSortCmpFunc[loop.example/g01329/impl.set]
namespace F200
noncomputable def ret (P : PT) : EP := retE T0 60 Tryz.f200 P
abbrev k0 : Sk := [(0,.v),(3,.v),(8,.i .i64),(9,.i .i64),(12,.i .i64)]
noncomputable def o2 := ob Tryz.f200 [.r,.r,.r,.r,.r,.l,.l,.r,.r]
def B2 (P : PT) (N1 : NTy k0 Pr) (x0 x3 : Value) (x8 x9 x12 : Int) (H : AHeap) : Prop :=
  N1 x0 x3 x8 x9 (IntKind.i64.wrap (x12 - 1)) H
theorem q2 (P : PT) (N1 : NTy k0 Pr) : QB Tryz.prog T0 60 o2 (En 60 k0 N1) k0 (B2 P N1) := fun _ _ _ _ _ _ _  => by kernel_rfl
noncomputable def o3 := ob Tryz.f200 [.r,.r,.r,.r,.r,.l,.l,.r,.l,.l,.r]
def B3 (P : PT) (N1 : NTy k0 Pr) (x0 x3 : Value) (x8 x9 x12 : Int) (H : AHeap) : Prop :=
  AC Tryz.prog T0 222 [x0, (Value.int .i64 x9), (Value.int .i64 x12), (Value.int .i64 x8), x3] H (fun v1 H2 => asTup v1 (fun l3 => B2 P N1 x0 x3 x8 x9 x12 H2))
theorem q3 (P : PT) (N1 : NTy k0 Pr) : QB Tryz.prog T0 60 o3 (En 60 k0 (B2 P N1)) k0 (B3 P N1) := fun _ _ _ _ _ _ _  => by kernel_rfl
noncomputable def o4 := ob Tryz.f200 [.r,.r,.r,.r,.r,.l,.l,.r,.l,.l,.l]
def B4 (P : PT) (N1 : NTy k0 Pr) (x0 x3 : Value) (x8 x9 x12 : Int) (H : AHeap) : Prop :=
  idxK x0 (IntKind.i64.wrap (x8 + x12)) 1 (fun b1 o2 => ldI .u64 H b1 o2 (fun v3 => idxK x0 x8 1 (fun b4 o5 => ldI .u64 H b4 o5 (fun v6 => idxK x0 x8 1 (fun b7 o8 => stK H b7 o8 [(Value.int .u64 v3)] (fun H9 => idxK x0 (IntKind.i64.wrap (x8 + x12)) 1 (fun b10 o11 => stK H9 b10 o11 [(Value.int .u64 v6)] (fun H12 => B3 P N1 x0 x3 x8 x9 x12 H12))))))))
theorem q4 (P : PT) (N1 : NTy k0 Pr) : QD Tryz.prog T0 60 o4 [(0, false), (1, false), (2, false), (3, false), (4, false), (5, false), (6, false), (7, false), (8, false), (9, false), (10, false), (11, false), (12, false), (13, false), (14, false), (15, false), (16, false), (17, false), (18, false), (19, false)] (En 60 k0 (B3 P N1)) k0 (B4 P N1) := fun _ _ _ _ _ _ _  => by kernel_rfl
noncomputable def o5 := ob Tryz.f200 [.r,.r,.r,.r,.r,.l,.l,.l,.l]
def B5 (P : PT) (N1 : NTy k0 Pr) (x0 x3 : Value) (x8 x9 x12 : Int) (H : AHeap) : Prop :=
  pif (decide ((x12 : Int) ≥ 0)) (B4 P N1 x0 x3 x8 x9 x12 H) (P (Value.tuple ⟨[]⟩) H)
theorem q5 (P : PT) (N1 : NTy k0 Pr) : QB Tryz.prog T0 60 o5 (cnd 33 (En 60 k0 (B4 P N1)) (ret P)) k0 (B5 P N1) := fun _ _ _ _ _ _ _  => by kernel_rfl
def L1 (P : PT) (x0 x3 : Value) (x8 x9 x12 : Int) (H : AHeap) : Prop :=
  ∃ (I : NTy k0 Pr) (μ : NTy k0 (AHeap → Nat)), I x0 x3 x8 x9 x12 H ∧ ∀ y0 y3 y8 y9 y12 G, I y0 y3 y8 y9 y12 G → B5 P (fun z0 z3 z8 z9 z12 G' => I z0 z3 z8 z9 z12 G' ∧ μ z0 z3 z8 z9 z12 G' < μ y0 y3 y8 y9 y12 G) y0 y3 y8 y9 y12 G
theorem l1 (P : PT) : LQ k0 (L1 P) (B5 P) := fun ⟨_,_,_,_,_,_⟩ _ ⟨I, μ, h0, hI⟩ => ⟨apT _ I, apT _ μ, h0, fun ⟨_,_,_,_,_,_⟩ _ h => hI _ _ _ _ _ _  h⟩
abbrev k1 : Sk := [(0,.v),(3,.v),(8,.i .i64),(9,.i .i64),(10,.i .i64)]
noncomputable def o6 := ob Tryz.f200 [.r,.r,.r,.r,.l]
def B6 (P : PT) (x0 x3 : Value) (x8 x9 x10 : Int) (H : AHeap) : Prop :=
  L1 P x0 x3 x8 x9 (IntKind.i64.wrap (x10 - 1)) H
theorem q6 (P : PT) : QB Tryz.prog T0 60 o6 (En 60 k0 (L1 P)) k1 (B6 P) := fun _ _ _ _ _ _ _  => by kernel_rfl
abbrev k2 : Sk := [(0,.v),(3,.v),(8,.i .i64),(9,.i .i64),(10,.i .i64),(11,.i .i64)]
noncomputable def o8 := ob Tryz.f200 [.r,.r,.r,.l,.r,.l,.l,.r,.r]
def B8 (P : PT) (N7 : NTy k2 Pr) (x0 x3 : Value) (x8 x9 x10 x11 : Int) (H : AHeap) : Prop :=
  N7 x0 x3 x8 x9 x10 (IntKind.i64.wrap (x11 - 1)) H
theorem q8 (P : PT) (N7 : NTy k2 Pr) : QB Tryz.prog T0 60 o8 (En 60 k2 N7) k2 (B8 P N7) := fun _ _ _ _ _ _ _ _  => by kernel_rfl
noncomputable def o9 := ob Tryz.f200 [.r,.r,.r,.l,.r,.l,.l,.r,.l,.l]
def B9 (P : PT) (N7 : NTy k2 Pr) (x0 x3 : Value) (x8 x9 x10 x11 : Int) (H : AHeap) : Prop :=
  AC Tryz.prog T0 222 [x0, (Value.int .i64 x11), (Value.int .i64 x10), (Value.int .i64 x8), x3] H (fun v1 H2 => asTup v1 (fun l3 => B8 P N7 x0 x3 x8 x9 x10 x11 H2))
theorem q9 (P : PT) (N7 : NTy k2 Pr) : QB Tryz.prog T0 60 o9 (En 60 k2 (B8 P N7)) k2 (B9 P N7) := fun _ _ _ _ _ _ _ _  => by kernel_rfl
noncomputable def o10 := ob Tryz.f200 [.r,.r,.r,.l,.r,.l,.l,.l,.l]
def B10 (P : PT) (N7 : NTy k2 Pr) (x0 x3 : Value) (x8 x9 x10 x11 : Int) (H : AHeap) : Prop :=
  pif (decide ((x11 : Int) ≥ 0)) (B9 P N7 x0 x3 x8 x9 x10 x11 H) (B6 P x0 x3 x8 x9 x10 H)
theorem q10 (P : PT) (N7 : NTy k2 Pr) : QB Tryz.prog T0 60 o10 (cnd 21 (En 60 k2 (B9 P N7)) (En 60 k1 (B6 P))) k2 (B10 P N7) := fun _ _ _ _ _ _ _ _  => by kernel_rfl
def L7 (P : PT) (x0 x3 : Value) (x8 x9 x10 x11 : Int) (H : AHeap) : Prop :=
  ∃ (I : NTy k2 Pr) (μ : NTy k2 (AHeap → Nat)), I x0 x3 x8 x9 x10 x11 H ∧ ∀ y0 y3 y8 y9 y10 y11 G, I y0 y3 y8 y9 y10 y11 G → B10 P (fun z0 z3 z8 z9 z10 z11 G' => I z0 z3 z8 z9 z10 z11 G' ∧ μ z0 z3 z8 z9 z10 z11 G' < μ y0 y3 y8 y9 y10 y11 G) y0 y3 y8 y9 y10 y11 G
theorem l7 (P : PT) : LQ k2 (L7 P) (B10 P) := fun ⟨_,_,_,_,_,_,_⟩ _ ⟨I, μ, h0, hI⟩ => ⟨apT _ I, apT _ μ, h0, fun ⟨_,_,_,_,_,_,_⟩ _ h => hI _ _ _ _ _ _ _  h⟩
noncomputable def o11 := ob Tryz.f200 [.r,.r,.r,.l,.l]
def B11 (P : PT) (x0 x3 : Value) (x8 x9 x10 : Int) (H : AHeap) : Prop :=
  L7 P x0 x3 x8 x9 x10 (IntKind.i64.wrap (Int.tdiv (IntKind.i64.wrap (x10 - 1)) 2)) H
theorem q11 (P : PT) : QB Tryz.prog T0 60 o11 (En 60 k2 (L7 P)) k1 (B11 P) := fun _ _ _ _ _ _ _  => by kernel_rfl
abbrev k3 : Sk := [(0,.v),(1,.i .i64),(2,.i .i64),(3,.v),(8,.i .i64),(9,.i .i64)]
noncomputable def o12 := ob Tryz.f200 [.r,.r,.l]
def B12 (P : PT) (x0 : Value) (x1 x2 : Int) (x3 : Value) (x8 x9 : Int) (H : AHeap) : Prop :=
  B11 P x0 x3 x8 x9 (IntKind.i64.wrap (x2 - x1)) H
theorem q12 (P : PT) : QB Tryz.prog T0 60 o12 (En 60 k1 (B11 P)) k3 (B12 P) := fun _ _ _ _ _ _ _ _  => by kernel_rfl
abbrev k4 : Sk := [(0,.v),(1,.i .i64),(2,.i .i64),(3,.v),(8,.i .i64)]
noncomputable def o13 := ob Tryz.f200 [.r,.l]
def B13 (P : PT) (x0 : Value) (x1 x2 : Int) (x3 : Value) (x8 : Int) (H : AHeap) : Prop :=
  B12 P x0 x1 x2 x3 x8 0 H
theorem q13 (P : PT) : QB Tryz.prog T0 60 o13 (En 60 k3 (B12 P)) k4 (B13 P) := fun _ _ _ _ _ _ _  => by kernel_rfl
abbrev k5 : Sk := [(0,.v),(1,.i .i64),(2,.i .i64),(3,.v)]
noncomputable def o14 := ob Tryz.f200 [.l]
def B14 (P : PT) (x0 : Value) (x1 x2 : Int) (x3 : Value) (H : AHeap) : Prop :=
  B13 P x0 x1 x2 x3 x1 H
theorem q14 (P : PT) : QB Tryz.prog T0 60 o14 (En 60 k4 (B13 P)) k5 (B14 P) := fun _ _ _ _ _ _  => by kernel_rfl
noncomputable def code : Code := (.seq (.region 0 ⟨o14⟩ false) (.seq (.region 1 ⟨o13⟩ false) (.seq (.region 2 ⟨o12⟩ false) (.seq (.seq (.region 3 ⟨o11⟩ false) (.block 0 (.loop (.seq (.seq (.region 4 ⟨o10⟩ false) (.cond (.tmp 21) .skip (.exit 0))) (.seq (.block 1 (.region 6 ⟨o9⟩ false)) (.region 5 ⟨o8⟩ false)))))) (.seq (.region 7 ⟨o6⟩ false) (.block 2 (.loop (.seq (.seq (.region 8 ⟨o5⟩ false) (.cond (.tmp 33) .skip (.exit 2))) (.seq (.block 3 (.seq (.region 10 ⟨o4⟩ true) (.region 11 ⟨o3⟩ false))) (.region 9 ⟨o2⟩ false))))))))))
theorem body : Tryz.f200.body = some code := by kernel_rfl
theorem main (P : PT) : ∀ env H, (En 60 k5 (B14 P)) env H → AW Tryz.prog T0 code env H (mkQ (ret P) (fun _ _ _ => False) (ret P)) :=
  (r_seq (rB T0_ok (q14 P)) (r_seq (rB T0_ok (q13 P)) (r_seq (rB T0_ok (q12 P)) (r_seq (r_seq (rB T0_ok (q11 P)) (r_block (rL (l7 P) (fun N7 => (r_seq (r_seq (rB T0_ok (q10 P N7)) (r_cond rfl r_skip (r_exit (fun _ _ h => h)))) (r_seq (r_block (rB T0_ok (q9 P N7))) (rB T0_ok (q8 P N7)))))))) (r_seq (rB T0_ok (q6 P)) (r_block (rL (l1 P) (fun N1 => (r_seq (r_seq (rB T0_ok (q5 P N1)) (r_cond rfl r_skip (r_exit (fun _ _ h => h)))) (r_seq (r_block (r_seq (rD T0_ok mixed [(0, false), (1, false), (2, false), (3, false), (4, false), (5, false), (6, false), (7, false), (8, false), (9, false), (10, false), (11, false), (12, false), (13, false), (14, false), (15, false), (16, false), (17, false), (18, false), (19, false)] (by kernel_rfl) (q4 P N1)) (rB T0_ok (q3 P N1)))) (rB T0_ok (q2 P N1))))))))))))
theorem ac (P : PT) (x0 : Value) (x1 x2 : Int) (x3 : Value) (H : AHeap) (h : B14 P x0 x1 x2 x3 H) : AC Tryz.prog T0 200 [x0, (Value.int .i64 x1), (Value.int .i64 x2), x3] H P :=
  r_fn T0_ok (c := code) (n := 60) Tryz.func200 body (by kernel_rfl) (main P) (En_mk (x0, x1, x2, x3, ()) (by kernel_rfl) ⟨by kernel_rfl, by kernel_rfl, by kernel_rfl, by kernel_rfl, trivial⟩ h)

end F200
-- slices.breakPatternsCmpFunc[loop.example/g01329/impl.set]
namespace F201
noncomputable def ret (P : PT) : EP := retE T0 67 Tryz.f201 P
abbrev k0 : Sk := [(0,.v),(1,.i .i64),(8,.i .i64),(9,.x),(10,.i .u64),(11,.i .i64)]
noncomputable def o2 := ob Tryz.f201 [.r,.r,.l,.r,.r,.r,.l,.l,.r,.r]
def B2 (P : PT) (N1 : NTy k0 Pr) (x0 : Value) (x1 x8 : Int) (x9 : Nat) (x10 x11 : Int) (H : AHeap) : Prop :=
  N1 x0 x1 x8 x9 x10 (IntKind.i64.wrap (x11 + 1)) H
theorem q2 (P : PT) (N1 : NTy k0 Pr) : QB Tryz.prog T0 67 o2 (En 67 k0 N1) k0 (B2 P N1) := fun _ _ _ _ _ _ _ _  => by kernel_rfl
abbrev k1 : Sk := [(0,.v),(1,.i .i64),(8,.i .i64),(9,.x),(10,.i .u64),(11,.i .i64),(12,.i .i64)]
noncomputable def o3 := ob Tryz.f201 [.r,.r,.l,.r,.r,.r,.l,.l,.r,.l,.l,.r,.r]
def B3 (P : PT) (N1 : NTy k0 Pr) (x0 : Value) (x1 x8 : Int) (x9 : Nat) (x10 x11 x12 : Int) (H : AHeap) : Prop :=
  idxK x0 (IntKind.i64.wrap (x1 + x12)) 1 (fun b1 o2 => ldI .u64 H b1 o2 (fun v3 => idxK x0 x11 1 (fun b4 o5 => ldI .u64 H b4 o5 (fun v6 => idxK x0 x11 1 (fun b7 o8 => stK H b7 o8 [(Value.int .u64 v3)] (fun H9 => idxK x0 (IntKind.i64.wrap (x1 + x12)) 1 (fun b10 o11 => stK H9 b10 o11 [(Value.int .u64 v6)] (fun H12 => B2 P N1 x0 x1 x8 x9 x10 x11 H12))))))))
theorem q3 (P : PT) (N1 : NTy k0 Pr) : QD Tryz.prog T0 67 o3 [(0, false), (1, false), (2, false), (3, false), (4, false), (5, false), (6, false), (7, false), (8, false), (9, false), (10, false), (11, false), (12, false), (13, false), (14, false), (15, false), (16, false), (17, false), (18, false), (19, false)] (En 67 k0 (B2 P N1)) k1 (B3 P N1) := fun _ _ _ _ _ _ _ _ _  => by kernel_rfl
noncomputable def o4 := ob Tryz.f201 [.r,.r,.l,.r,.r,.r,.l,.l,.r,.l,.l,.r,.l,.r,.l]
def B4 (P : PT) (N1 : NTy k0 Pr) (x0 : Value) (x1 x8 : Int) (x9 : Nat) (x10 x11 x12 : Int) (H : AHeap) : Prop :=
  B3 P N1 x0 x1 x8 x9 x10 x11 (IntKind.i64.wrap (x12 - x8)) H
theorem q4 (P : PT) (N1 : NTy k0 Pr) : QB Tryz.prog T0 67 o4 (En 67 k1 (B3 P N1)) k1 (B4 P N1) := fun _ _ _ _ _ _ _ _ _  => by kernel_rfl
noncomputable def o5 := ob Tryz.f201 [.r,.r,.l,.r,.r,.r,.l,.l,.r,.l,.l,.r,.l,.l]
def B5 (P : PT) (N1 : NTy k0 Pr) (x0 : Value) (x1 x8 : Int) (x9 : Nat) (x10 x11 x12 : Int) (H : AHeap) : Prop :=
  pif (decide ((x12 : Int) ≥ x8)) (B4 P N1 x0 x1 x8 x9 x10 x11 x12 H) (B3 P N1 x0 x1 x8 x9 x10 x11 x12 H)
theorem q5 (P : PT) (N1 : NTy k0 Pr) : QB Tryz.prog T0 67 o5 (cnd 45 (En 67 k1 (B4 P N1)) (En 67 k1 (B3 P N1))) k1 (B5 P N1) := fun _ _ _ _ _ _ _ _ _  => by kernel_rfl
noncomputable def o6 := ob Tryz.f201 [.r,.r,.l,.r,.r,.r,.l,.l,.r,.l,.l,.l]
def B6 (P : PT) (N1 : NTy k0 Pr) (x0 : Value) (x1 x8 : Int) (x9 : Nat) (x10 x11 : Int) (H : AHeap) : Prop :=
  AC Tryz.prog T0 224 [(Value.pointer (some ⟨x9, 0, none⟩))] H (fun v1 H2 => asI .u64 v1 (fun v3 => B5 P N1 x0 x1 x8 x9 x10 x11 (IntKind.i64.wrap (IntKind.u64.wrap (BitVec.ofInt 64 v3 &&& BitVec.ofInt 64 (IntKind.u64.wrap (x10 - 1))).toNat)) H2))
theorem q6 (P : PT) (N1 : NTy k0 Pr) : QB Tryz.prog T0 67 o6 (En 67 k1 (B5 P N1)) k0 (B6 P N1) := fun _ _ _ _ _ _ _ _  => by kernel_rfl
noncomputable def o7 := ob Tryz.f201 [.r,.r,.l,.r,.r,.r,.l,.l,.l,.l]
def B7 (P : PT) (N1 : NTy k0 Pr) (x0 : Value) (x1 x8 : Int) (x9 : Nat) (x10 x11 : Int) (H : AHeap) : Prop :=
  pif (decide ((x11 : Int) ≤ (IntKind.i64.wrap ((IntKind.i64.wrap (x1 + (IntKind.i64.wrap ((IntKind.i64.wrap (Int.tdiv x8 4)) * 2)))) + 1)))) (B6 P N1 x0 x1 x8 x9 x10 x11 H) (P (Value.tuple ⟨[]⟩) H)
theorem q7 (P : PT) (N1 : NTy k0 Pr) : QB Tryz.prog T0 67 o7 (cnd 35 (En 67 k0 (B6 P N1)) (ret P)) k0 (B7 P N1) := fun _ _ _ _ _ _ _ _  => by kernel_rfl
def L1 (P : PT) (x0 : Value) (x1 x8 : Int) (x9 : Nat) (x10 x11 : Int) (H : AHeap) : Prop :=
  ∃ (I : NTy k0 Pr) (μ : NTy k0 (AHeap → Nat)), I x0 x1 x8 x9 x10 x11 H ∧ ∀ y0 y1 y8 y9 y10 y11 G, I y0 y1 y8 y9 y10 y11 G → B7 P (fun z0 z1 z8 z9 z10 z11 G' => I z0 z1 z8 z9 z10 z11 G' ∧ μ z0 z1 z8 z9 z10 z11 G' < μ y0 y1 y8 y9 y10 y11 G) y0 y1 y8 y9 y10 y11 G
theorem l1 (P : PT) : LQ k0 (L1 P) (B7 P) := fun ⟨_,_,_,_,_,_,_⟩ _ ⟨I, μ, h0, hI⟩ => ⟨apT _ I, apT _ μ, h0, fun ⟨_,_,_,_,_,_,_⟩ _ h => hI _ _ _ _ _ _ _  h⟩
abbrev k2 : Sk := [(0,.v),(1,.i .i64),(8,.i .i64),(9,.x),(10,.i .u64)]
noncomputable def o8 := ob Tryz.f201 [.r,.r,.l,.r,.r,.l]
def B8 (P : PT) (x0 : Value) (x1 x8 : Int) (x9 : Nat) (x10 : Int) (H : AHeap) : Prop :=
  L1 P x0 x1 x8 x9 x10 (IntKind.i64.wrap ((IntKind.i64.wrap (x1 + (IntKind.i64.wrap ((IntKind.i64.wrap (Int.tdiv x8 4)) * 2)))) - 1)) H
theorem q8 (P : PT) : QB Tryz.prog T0 67 o8 (En 67 k0 (L1 P)) k2 (B8 P) := fun _ _ _ _ _ _ _  => by kernel_rfl
abbrev k3 : Sk := [(0,.v),(1,.i .i64),(8,.i .i64),(9,.x)]
noncomputable def o9 := ob Tryz.f201 [.r,.r,.l,.r,.l]
def B9 (P : PT) (x0 : Value) (x1 x8 : Int) (x9 : Nat) (H : AHeap) : Prop :=
  AC Tryz.prog T0 223 [(Value.int .i64 x8)] H (fun v1 H2 => asI .u64 v1 (fun v3 => B8 P x0 x1 x8 x9 v3 H2))
theorem q9 (P : PT) : QB Tryz.prog T0 67 o9 (En 67 k2 (B8 P)) k3 (B9 P) := fun _ _ _ _ _ _  => by kernel_rfl
abbrev k4 : Sk := [(0,.v),(1,.i .i64),(8,.i .i64)]
noncomputable def o10 := ob Tryz.f201 [.r,.r,.l,.l]
def B10 (P : PT) (x0 : Value) (x1 x8 : Int) (H : AHeap) : Prop :=
  newK H [(Value.int .u64 0)] 194 (fun b1 H2 => stK H2 b1 0 [(Value.int .u64 (IntKind.u64.wrap x8))] (fun H3 => B9 P x0 x1 x8 b1 H3))
theorem q10 (P : PT) : QB Tryz.prog T0 67 o10 (En 67 k3 (B9 P)) k4 (B10 P) := fun _ _ _ _ _  => by kernel_rfl
noncomputable def o11 := ob Tryz.f201 [.r,.l]
def B11 (P : PT) (x0 : Value) (x1 x8 : Int) (H : AHeap) : Prop :=
  pif (decide ((x8 : Int) ≥ 8)) (B10 P x0 x1 x8 H) (P (Value.tuple ⟨[]⟩) H)
theorem q11 (P : PT) : QB Tryz.prog T0 67 o11 (cnd 17 (En 67 k4 (B10 P)) (ret P)) k4 (B11 P) := fun _ _ _ _ _  => by kernel_rfl
abbrev k5 : Sk := [(0,.v),(1,.i .i64),(2,.i .i64)]
noncomputable def o12 := ob Tryz.f201 [.l]
def B12 (P : PT) (x0 : Value) (x1 x2 : Int) (H : AHeap) : Prop :=
  B11 P x0 x1 (IntKind.i64.wrap (x2 - x1)) H
theorem q12 (P : PT) : QB Tryz.prog T0 67 o12 (En 67 k4 (B11 P)) k5 (B12 P) := fun _ _ _ _ _  => by kernel_rfl
noncomputable def code : Code := (.seq (.region 0 ⟨o12⟩ false) (.seq (.region 1 ⟨o11⟩ false) (.cond (.tmp 17) (.seq (.region 2 ⟨o10⟩ false) (.seq (.region 3 ⟨o9⟩ false) (.seq (.region 4 ⟨o8⟩ false) (.block 0 (.loop (.seq (.seq (.region 5 ⟨o7⟩ false) (.cond (.tmp 35) .skip (.exit 0))) (.seq (.block 1 (.seq (.region 7 ⟨o6⟩ false) (.seq (.seq (.region 8 ⟨o5⟩ false) (.cond (.tmp 45) (.region 9 ⟨o4⟩ false) .skip)) (.region 10 ⟨o3⟩ true)))) (.region 6 ⟨o2⟩ false)))))))) .skip)))
theorem body : Tryz.f201.body = some code := by kernel_rfl
theorem main (P : PT) : ∀ env H, (En 67 k5 (B12 P)) env H → AW Tryz.prog T0 code env H (mkQ (ret P) (fun _ _ _ => False) (ret P)) :=
  (r_seq (rB T0_ok (q12 P)) (r_seq (rB T0_ok (q11 P)) (r_cond rfl (r_seq (rB T0_ok (q10 P)) (r_seq (rB T0_ok (q9 P)) (r_seq (rB T0_ok (q8 P)) (r_block (rL (l1 P) (fun N1 => (r_seq (r_seq (rB T0_ok (q7 P N1)) (r_cond rfl r_skip (r_exit (fun _ _ h => h)))) (r_seq (r_block (r_seq (rB T0_ok (q6 P N1)) (r_seq (r_seq (rB T0_ok (q5 P N1)) (r_cond rfl (rB T0_ok (q4 P N1)) r_skip)) (rD T0_ok mixed [(0, false), (1, false), (2, false), (3, false), (4, false), (5, false), (6, false), (7, false), (8, false), (9, false), (10, false), (11, false), (12, false), (13, false), (14, false), (15, false), (16, false), (17, false), (18, false), (19, false)] (by kernel_rfl) (q3 P N1))))) (rB T0_ok (q2 P N1)))))))))) r_skip)))
theorem ac (P : PT) (x0 : Value) (x1 x2 : Int) (x3 : Value) (H : AHeap) (h : B12 P x0 x1 x2 H) : AC Tryz.prog T0 201 [x0, (Value.int .i64 x1), (Value.int .i64 x2), x3] H P :=
  r_fn T0_ok (c := code) (n := 67) Tryz.func201 body (by kernel_rfl) (main P) (En_mk (x0, x1, x2, ()) (by kernel_rfl) ⟨by kernel_rfl, by kernel_rfl, by kernel_rfl, trivial⟩ h)

end F201
-- slices.choosePivotCmpFunc[loop.example/g01329/impl.set]
namespace F202
noncomputable def ret (P : PT) : EP := retE T0 63 Tryz.f202 P
abbrev k0 : Sk := [(13,.i .i64)]
noncomputable def o1 := ob Tryz.f202 [.r,.r,.r,.r,.r,.r,.r,.r,.l,.r,.l,.l]
def B1 (P : PT) (x13 : Int) (H : AHeap) : Prop :=
  P (Value.tuple ⟨[(Value.int .i64 x13), (Value.int .i64 1)]⟩) H
theorem q1 (P : PT) : QB Tryz.prog T0 63 o1 (ret P) k0 (B1 P) := fun _ _ _  => by kernel_rfl
noncomputable def o2 := ob Tryz.f202 [.r,.r,.r,.r,.r,.r,.r,.r,.l,.r,.r,.r,.l,.l]
def B2 (P : PT) (x13 : Int) (H : AHeap) : Prop :=
  P (Value.tuple ⟨[(Value.int .i64 x13), (Value.int .i64 2)]⟩) H
theorem q2 (P : PT) : QB Tryz.prog T0 63 o2 (ret P) k0 (B2 P) := fun _ _ _  => by kernel_rfl
noncomputable def o3 := ob Tryz.f202 [.r,.r,.r,.r,.r,.r,.r,.r,.l,.r,.r,.r,.r,.l]
def B3 (P : PT) (x13 : Int) (H : AHeap) : Prop :=
  P (Value.tuple ⟨[(Value.int .i64 x13), (Value.int .i64 0)]⟩) H
theorem q3 (P : PT) : QB Tryz.prog T0 63 o3 (ret P) k0 (B3 P) := fun _ _ _  => by kernel_rfl
abbrev k1 : Sk := [(13,.i .i64),(55,.i .i64)]
noncomputable def o4 := ob Tryz.f202 [.r,.r,.r,.r,.r,.r,.r,.r,.l,.r,.r,.l]
def B4 (P : PT) (x13 x55 : Int) (H : AHeap) : Prop :=
  pif ((x55 : Int) == 12) (B2 P x13 H) (B3 P x13 H)
theorem q4 (P : PT) : QB Tryz.prog T0 63 o4 (cnd 60 (En 63 k0 (B2 P)) (En 63 k0 (B3 P))) k1 (B4 P) := fun _ _ _ _  => by kernel_rfl
noncomputable def o5 := ob Tryz.f202 [.r,.r,.r,.r,.r,.r,.r,.r,.l,.l]
def B5 (P : PT) (x13 x55 : Int) (H : AHeap) : Prop :=
  pif ((x55 : Int) == 0) (B1 P x13 H) (B4 P x13 x55 H)
theorem q5 (P : PT) : QB Tryz.prog T0 63 o5 (cnd 57 (En 63 k0 (B1 P)) (En 63 k1 (B4 P))) k1 (B5 P) := fun _ _ _ _  => by kernel_rfl
abbrev k2 : Sk := [(11,.x),(13,.i .i64)]
noncomputable def o6 := ob Tryz.f202 [.r,.r,.r,.r,.r,.r,.r,.l]
def B6 (P : PT) (x11 : Nat) (x13 : Int) (H : AHeap) : Prop :=
  ldI .i64 H x11 0 (fun v1 => B5 P x13 v1 H)
theorem q6 (P : PT) : QB Tryz.prog T0 63 o6 (En 63 k1 (B5 P)) k2 (B6 P) := fun _ _ _ _  => by kernel_rfl
abbrev k3 : Sk := [(0,.v),(3,.v),(11,.x),(12,.i .i64),(13,.i .i64),(14,.i .i64)]
noncomputable def o7 := ob Tryz.f202 [.r,.r,.r,.r,.r,.r,.l,.r,.l,.r]
def B7 (P : PT) (x0 x3 : Value) (x11 : Nat) (x12 x13 x14 : Int) (H : AHeap) : Prop :=
  AC Tryz.prog T0 226 [x0, (Value.int .i64 x12), (Value.int .i64 x13), (Value.int .i64 x14), (Value.pointer (some ⟨x11, 0, none⟩)), x3] H (fun v1 H2 => asI .i64 v1 (fun v3 => B6 P x11 v3 H2))
theorem q7 (P : PT) : QB Tryz.prog T0 63 o7 (En 63 k2 (B6 P)) k3 (B7 P) := fun _ _ _ _ _ _ _ _  => by kernel_rfl
noncomputable def o8 := ob Tryz.f202 [.r,.r,.r,.r,.r,.r,.l,.r,.l,.l,.r,.l,.r,.r]
def B8 (P : PT) (x0 x3 : Value) (x11 : Nat) (x12 x13 x14 : Int) (H : AHeap) : Prop :=
  AC Tryz.prog T0 225 [x0, (Value.int .i64 x14), (Value.pointer (some ⟨x11, 0, none⟩)), x3] H (fun v1 H2 => asI .i64 v1 (fun v3 => B7 P x0 x3 x11 x12 x13 v3 H2))
theorem q8 (P : PT) : QB Tryz.prog T0 63 o8 (En 63 k3 (B7 P)) k3 (B8 P) := fun _ _ _ _ _ _ _ _  => by kernel_rfl
noncomputable def o9 := ob Tryz.f202 [.r,.r,.r,.r,.r,.r,.l,.r,.l,.l,.r,.l,.r,.l]
def B9 (P : PT) (x0 x3 : Value) (x11 : Nat) (x12 x13 x14 : Int) (H : AHeap) : Prop :=
  AC Tryz.prog T0 225 [x0, (Value.int .i64 x13), (Value.pointer (some ⟨x11, 0, none⟩)), x3] H (fun v1 H2 => asI .i64 v1 (fun v3 => B8 P x0 x3 x11 x12 v3 x14 H2))
theorem q9 (P : PT) : QB Tryz.prog T0 63 o9 (En 63 k3 (B8 P)) k3 (B9 P) := fun _ _ _ _ _ _ _ _  => by kernel_rfl
noncomputable def o10 := ob Tryz.f202 [.r,.r,.r,.r,.r,.r,.l,.r,.l,.l,.r,.l,.l]
def B10 (P : PT) (x0 x3 : Value) (x11 : Nat) (x12 x13 x14 : Int) (H : AHeap) : Prop :=
  AC Tryz.prog T0 225 [x0, (Value.int .i64 x12), (Value.pointer (some ⟨x11, 0, none⟩)), x3] H (fun v1 H2 => asI .i64 v1 (fun v3 => B9 P x0 x3 x11 v3 x13 x14 H2))
theorem q10 (P : PT) : QB Tryz.prog T0 63 o10 (En 63 k3 (B9 P)) k3 (B10 P) := fun _ _ _ _ _ _ _ _  => by kernel_rfl
abbrev k4 : Sk := [(0,.v),(3,.v),(10,.i .i64),(11,.x),(12,.i .i64),(13,.i .i64),(14,.i .i64)]
noncomputable def o11 := ob Tryz.f202 [.r,.r,.r,.r,.r,.r,.l,.r,.l,.l,.l]
def B11 (P : PT) (x0 x3 : Value) (x10 : Int) (x11 : Nat) (x12 x13 x14 : Int) (H : AHeap) : Prop :=
  pif (decide ((x10 : Int) ≥ 50)) (B10 P x0 x3 x11 x12 x13 x14 H) (B7 P x0 x3 x11 x12 x13 x14 H)
theorem q11 (P : PT) : QB Tryz.prog T0 63 o11 (cnd 36 (En 63 k3 (B10 P)) (En 63 k3 (B7 P))) k4 (B11 P) := fun _ _ _ _ _ _ _ _ _  => by kernel_rfl
noncomputable def o12 := ob Tryz.f202 [.r,.r,.r,.r,.r,.r,.l,.l]
def B12 (P : PT) (x0 x3 : Value) (x10 : Int) (x11 : Nat) (x12 x13 x14 : Int) (H : AHeap) : Prop :=
  pif (decide ((x10 : Int) ≥ 8)) (B11 P x0 x3 x10 x11 x12 x13 x14 H) (B6 P x11 x13 H)
theorem q12 (P : PT) : QB Tryz.prog T0 63 o12 (cnd 34 (En 63 k4 (B11 P)) (En 63 k2 (B6 P))) k4 (B12 P) := fun _ _ _ _ _ _ _ _ _  => by kernel_rfl
abbrev k5 : Sk := [(0,.v),(1,.i .i64),(3,.v),(10,.i .i64),(11,.x),(12,.i .i64),(13,.i .i64)]
noncomputable def o13 := ob Tryz.f202 [.r,.r,.r,.r,.r,.l]
def B13 (P : PT) (x0 : Value) (x1 : Int) (x3 : Value) (x10 : Int) (x11 : Nat) (x12 x13 : Int) (H : AHeap) : Prop :=
  B12 P x0 x3 x10 x11 x12 x13 (IntKind.i64.wrap (x1 + (IntKind.i64.wrap ((IntKind.i64.wrap (Int.tdiv x10 4)) * 3)))) H
theorem q13 (P : PT) : QB Tryz.prog T0 63 o13 (En 63 k4 (B12 P)) k5 (B13 P) := fun _ _ _ _ _ _ _ _ _  => by kernel_rfl
abbrev k6 : Sk := [(0,.v),(1,.i .i64),(3,.v),(10,.i .i64),(11,.x),(12,.i .i64)]
noncomputable def o14 := ob Tryz.f202 [.r,.r,.r,.r,.l]
def B14 (P : PT) (x0 : Value) (x1 : Int) (x3 : Value) (x10 : Int) (x11 : Nat) (x12 : Int) (H : AHeap) : Prop :=
  B13 P x0 x1 x3 x10 x11 x12 (IntKind.i64.wrap (x1 + (IntKind.i64.wrap ((IntKind.i64.wrap (Int.tdiv x10 4)) * 2)))) H
theorem q14 (P : PT) : QB Tryz.prog T0 63 o14 (En 63 k5 (B13 P)) k6 (B14 P) := fun _ _ _ _ _ _ _ _  => by kernel_rfl
abbrev k7 : Sk := [(0,.v),(1,.i .i64),(3,.v),(10,.i .i64),(11,.x)]
noncomputable def o15 := ob Tryz.f202 [.r,.r,.r,.l]
def B15 (P : PT) (x0 : Value) (x1 : Int) (x3 : Value) (x10 : Int) (x11 : Nat) (H : AHeap) : Prop :=
  B14 P x0 x1 x3 x10 x11 (IntKind.i64.wrap (x1 + (IntKind.i64.wrap ((IntKind.i64.wrap (Int.tdiv x10 4)) * 1)))) H
theorem q15 (P : PT) : QB Tryz.prog T0 63 o15 (En 63 k6 (B14 P)) k7 (B15 P) := fun _ _ _ _ _ _ _  => by kernel_rfl
abbrev k8 : Sk := [(0,.v),(1,.i .i64),(3,.v),(10,.i .i64)]
noncomputable def o16 := ob Tryz.f202 [.r,.r,.l]
def B16 (P : PT) (x0 : Value) (x1 : Int) (x3 : Value) (x10 : Int) (H : AHeap) : Prop :=
  newK H [(Value.int .i64 0)] 3 (fun b1 H2 => B15 P x0 x1 x3 x10 b1 H2)
theorem q16 (P : PT) : QB Tryz.prog T0 63 o16 (En 63 k7 (B15 P)) k8 (B16 P) := fun _ _ _ _ _ _  => by kernel_rfl
abbrev k9 : Sk := [(0,.v),(1,.i .i64),(2,.i .i64),(3,.v)]
noncomputable def o17 := ob Tryz.f202 [.r,.l]
def B17 (P : PT) (x0 : Value) (x1 x2 : Int) (x3 : Value) (H : AHeap) : Prop :=
  B16 P x0 x1 x3 (IntKind.i64.wrap (x2 - x1)) H
theorem q17 (P : PT) : QB Tryz.prog T0 63 o17 (En 63 k8 (B16 P)) k9 (B17 P) := fun _ _ _ _ _ _  => by kernel_rfl
noncomputable def o18 := ob Tryz.f202 [.l]
def B18 (P : PT) (x0 : Value) (x1 x2 : Int) (x3 : Value) (H : AHeap) : Prop :=
  B17 P x0 x1 x2 x3 H
theorem q18 (P : PT) : QB Tryz.prog T0 63 o18 (En 63 k9 (B17 P)) k9 (B18 P) := fun _ _ _ _ _ _  => by kernel_rfl
noncomputable def code : Code := (.seq (.region 0 ⟨o18⟩ false) (.seq (.region 1 ⟨o17⟩ false) (.seq (.region 2 ⟨o16⟩ false) (.seq (.region 3 ⟨o15⟩ false) (.seq (.region 4 ⟨o14⟩ false) (.seq (.region 5 ⟨o13⟩ false) (.seq (.seq (.region 6 ⟨o12⟩ false) (.cond (.tmp 34) (.seq (.seq (.region 7 ⟨o11⟩ false) (.cond (.tmp 36) (.seq (.region 8 ⟨o10⟩ false) (.seq (.region 9 ⟨o9⟩ false) (.region 10 ⟨o8⟩ false))) .skip)) (.region 11 ⟨o7⟩ false)) .skip)) (.seq (.region 12 ⟨o6⟩ false) (.block 0 (.seq (.region 14 ⟨o5⟩ false) (.cond (.tmp 57) (.seq (.region 15 ⟨o1⟩ false) .ret) (.seq (.region 16 ⟨o4⟩ false) (.cond (.tmp 60) (.seq (.region 17 ⟨o2⟩ false) .ret) (.seq (.region 13 ⟨o3⟩ false) .ret))))))))))))))
theorem body : Tryz.f202.body = some code := by kernel_rfl
theorem main (P : PT) : ∀ env H, (En 63 k9 (B18 P)) env H → AW Tryz.prog T0 code env H (mkQ (ret P) (fun _ _ _ => False) (ret P)) :=
  (r_seq (rB T0_ok (q18 P)) (r_seq (rB T0_ok (q17 P)) (r_seq (rB T0_ok (q16 P)) (r_seq (rB T0_ok (q15 P)) (r_seq (rB T0_ok (q14 P)) (r_seq (rB T0_ok (q13 P)) (r_seq (r_seq (rB T0_ok (q12 P)) (r_cond rfl (r_seq (r_seq (rB T0_ok (q11 P)) (r_cond rfl (r_seq (rB T0_ok (q10 P)) (r_seq (rB T0_ok (q9 P)) (rB T0_ok (q8 P)))) r_skip)) (rB T0_ok (q7 P))) r_skip)) (r_seq (rB T0_ok (q6 P)) (r_block (r_seq (rB T0_ok (q5 P)) (r_cond rfl (r_seq (rB T0_ok (q1 P)) r_ret) (r_seq (rB T0_ok (q4 P)) (r_cond rfl (r_seq (rB T0_ok (q2 P)) r_ret) (r_seq (rB T0_ok (q3 P)) r_ret))))))))))))))
theorem ac (P : PT) (x0 : Value) (x1 x2 : Int) (x3 : Value) (H : AHeap) (h : B18 P x0 x1 x2 x3 H) : AC Tryz.prog T0 202 [x0, (Value.int .i64 x1), (Value.int .i64 x2), x3] H P :=
  r_fn T0_ok (c := code) (n := 63) Tryz.func202 body (by kernel_rfl) (main P) (En_mk (x0, x1, x2, x3, ()) (by kernel_rfl) ⟨by kernel_rfl, by kernel_rfl, by kernel_rfl, by kernel_rfl, trivial⟩ h)

end F202
-- slices.reverseRangeCmpFunc[loop.example/g01329/impl.set]
namespace F203
noncomputable def ret (P : PT) : EP := retE T0 34 Tryz.f203 P
abbrev k0 : Sk := [(0,.v),(8,.i .i64),(9,.i .i64)]
noncomputable def o2 := ob Tryz.f203 [.r,.r,.l,.l,.r,.l,.r,.r]
def B2 (P : PT) (N1 : NTy k0 Pr) (x0 : Value) (x8 x9 : Int) (H : AHeap) : Prop :=
  N1 x0 x8 (IntKind.i64.wrap (x9 - 1)) H
theorem q2 (P : PT) (N1 : NTy k0 Pr) : QB Tryz.prog T0 34 o2 (En 34 k0 N1) k0 (B2 P N1) := fun _ _ _ _ _  => by kernel_rfl
noncomputable def o3 := ob Tryz.f203 [.r,.r,.l,.l,.r,.l,.r,.l]
def B3 (P : PT) (N1 : NTy k0 Pr) (x0 : Value) (x8 x9 : Int) (H : AHeap) : Prop :=
  B2 P N1 x0 (IntKind.i64.wrap (x8 + 1)) x9 H
theorem q3 (P : PT) (N1 : NTy k0 Pr) : QB Tryz.prog T0 34 o3 (En 34 k0 (B2 P N1)) k0 (B3 P N1) := fun _ _ _ _ _  => by kernel_rfl
noncomputable def o4 := ob Tryz.f203 [.r,.r,.l,.l,.r,.l,.l]
def B4 (P : PT) (N1 : NTy k0 Pr) (x0 : Value) (x8 x9 : Int) (H : AHeap) : Prop :=
  idxK x0 x9 1 (fun b1 o2 => ldI .u64 H b1 o2 (fun v3 => idxK x0 x8 1 (fun b4 o5 => ldI .u64 H b4 o5 (fun v6 => idxK x0 x8 1 (fun b7 o8 => stK H b7 o8 [(Value.int .u64 v3)] (fun H9 => idxK x0 x9 1 (fun b10 o11 => stK H9 b10 o11 [(Value.int .u64 v6)] (fun H12 => B3 P N1 x0 x8 x9 H12))))))))
theorem q4 (P : PT) (N1 : NTy k0 Pr) : QD Tryz.prog T0 34 o4 [(0, false), (1, false), (2, false), (3, false), (4, false), (5, false), (6, false), (7, false), (8, false), (9, false), (10, false), (11, false), (12, false), (13, false), (14, false), (15, false)] (En 34 k0 (B3 P N1)) k0 (B4 P N1) := fun _ _ _ _ _  => by kernel_rfl
noncomputable def o5 := ob Tryz.f203 [.r,.r,.l,.l,.l,.l]
def B5 (P : PT) (N1 : NTy k0 Pr) (x0 : Value) (x8 x9 : Int) (H : AHeap) : Prop :=
  pif (decide ((x8 : Int) < x9)) (B4 P N1 x0 x8 x9 H) (P (Value.tuple ⟨[]⟩) H)
theorem q5 (P : PT) (N1 : NTy k0 Pr) : QB Tryz.prog T0 34 o5 (cnd 15 (En 34 k0 (B4 P N1)) (ret P)) k0 (B5 P N1) := fun _ _ _ _ _  => by kernel_rfl
def L1 (P : PT) (x0 : Value) (x8 x9 : Int) (H : AHeap) : Prop :=
  ∃ (I : NTy k0 Pr) (μ : NTy k0 (AHeap → Nat)), I x0 x8 x9 H ∧ ∀ y0 y8 y9 G, I y0 y8 y9 G → B5 P (fun z0 z8 z9 G' => I z0 z8 z9 G' ∧ μ z0 z8 z9 G' < μ y0 y8 y9 G) y0 y8 y9 G
theorem l1 (P : PT) : LQ k0 (L1 P) (B5 P) := fun ⟨_,_,_,_⟩ _ ⟨I, μ, h0, hI⟩ => ⟨apT _ I, apT _ μ, h0, fun ⟨_,_,_,_⟩ _ h => hI _ _ _ _  h⟩
abbrev k1 : Sk := [(0,.v),(2,.i .i64),(8,.i .i64)]
noncomputable def o6 := ob Tryz.f203 [.r,.l]
def B6 (P : PT) (x0 : Value) (x2 x8 : Int) (H : AHeap) : Prop :=
  L1 P x0 x8 (IntKind.i64.wrap (x2 - 1)) H
theorem q6 (P : PT) : QB Tryz.prog T0 34 o6 (En 34 k0 (L1 P)) k1 (B6 P) := fun _ _ _ _ _  => by kernel_rfl
abbrev k2 : Sk := [(0,.v),(1,.i .i64),(2,.i .i64)]
noncomputable def o7 := ob Tryz.f203 [.l]
def B7 (P : PT) (x0 : Value) (x1 x2 : Int) (H : AHeap) : Prop :=
  B6 P x0 x2 x1 H
theorem q7 (P : PT) : QB Tryz.prog T0 34 o7 (En 34 k1 (B6 P)) k2 (B7 P) := fun _ _ _ _ _  => by kernel_rfl
noncomputable def code : Code := (.seq (.region 0 ⟨o7⟩ false) (.seq (.region 1 ⟨o6⟩ false) (.block 0 (.loop (.seq (.seq (.region 2 ⟨o5⟩ false) (.cond (.tmp 15) .skip (.exit 0))) (.block 1 (.seq (.region 3 ⟨o4⟩ true) (.seq (.region 4 ⟨o3⟩ false) (.region 5 ⟨o2⟩ false)))))))))
theorem body : Tryz.f203.body = some code := by kernel_rfl
theorem main (P : PT) : ∀ env H, (En 34 k2 (B7 P)) env H → AW Tryz.prog T0 code env H (mkQ (ret P) (fun _ _ _ => False) (ret P)) :=
  (r_seq (rB T0_ok (q7 P)) (r_seq (rB T0_ok (q6 P)) (r_block (rL (l1 P) (fun N1 => (r_seq (r_seq (rB T0_ok (q5 P N1)) (r_cond rfl r_skip (r_exit (fun _ _ h => h)))) (r_block (r_seq (rD T0_ok mixed [(0, false), (1, false), (2, false), (3, false), (4, false), (5, false), (6, false), (7, false), (8, false), (9, false), (10, false), (11, false), (12, false), (13, false), (14, false), (15, false)] (by kernel_rfl) (q4 P N1)) (r_seq (rB T0_ok (q3 P N1)) (rB T0_ok (q2 P N1)))))))))))
theorem ac (P : PT) (x0 : Value) (x1 x2 : Int) (x3 : Value) (H : AHeap) (h : B7 P x0 x1 x2 H) : AC Tryz.prog T0 203 [x0, (Value.int .i64 x1), (Value.int .i64 x2), x3] H P :=
  r_fn T0_ok (c := code) (n := 34) Tryz.func203 body (by kernel_rfl) (main P) (En_mk (x0, x1, x2, ()) (by kernel_rfl) ⟨by kernel_rfl, by kernel_rfl, by kernel_rfl, trivial⟩ h)

end F203
-- slices.partialInsertionSortCmpFunc[loop.example/g01329/impl.set]
namespace F204
noncomputable def ret (P : PT) : EP := retE T0 141 Tryz.f204 P
abbrev k0 : Sk := []
noncomputable def o1 := ob Tryz.f204 [.r,.r,.r,.l]
def B1 (P : PT) (H : AHeap) : Prop :=
  P (Value.bool false) H
theorem q1 (P : PT) : QB Tryz.prog T0 141 o1 (ret P) k0 (B1 P) := fun _ _  => by kernel_rfl
abbrev k1 : Sk := [(0,.v),(1,.i .i64),(2,.i .i64),(3,.v),(9,.i .i64),(10,.i .i64)]
noncomputable def o3 := ob Tryz.f204 [.r,.r,.l,.r,.l,.l,.r,.r]
def B3 (P : PT) (N2 : NTy k1 Pr) (x0 : Value) (x1 x2 : Int) (x3 : Value) (x9 x10 : Int) (H : AHeap) : Prop :=
  N2 x0 x1 x2 x3 x9 (IntKind.i64.wrap (x10 + 1)) H
theorem q3 (P : PT) (N2 : NTy k1 Pr) : QB Tryz.prog T0 141 o3 (En 141 k1 N2) k1 (B3 P N2) := fun _ _ _ _ _ _ _ _  => by kernel_rfl
abbrev k2 : Sk := [(0,.v),(1,.i .i64),(2,.i .i64),(3,.v),(9,.i .i64),(10,.i .i64),(12,.i .i64)]
noncomputable def o5 := ob Tryz.f204 [.r,.r,.l,.r,.l,.l,.r,.l,.l,.r,.r,.r,.r,.r,.r,.l,.r,.l,.l,.r,.r]
def B5 (P : PT) (N2 : NTy k1 Pr) (N4 : NTy k2 Pr) (x0 : Value) (x1 x2 : Int) (x3 : Value) (x9 x10 x12 : Int) (H : AHeap) : Prop :=
  N4 x0 x1 x2 x3 x9 x10 (IntKind.i64.wrap (x12 + 1)) H
theorem q5 (P : PT) (N2 : NTy k1 Pr) (N4 : NTy k2 Pr) : QB Tryz.prog T0 141 o5 (En 141 k2 N4) k2 (B5 P N2 N4) := fun _ _ _ _ _ _ _ _ _  => by kernel_rfl
noncomputable def o6 := ob Tryz.f204 [.r,.r,.l,.r,.l,.l,.r,.l,.l,.r,.r,.r,.r,.r,.r,.l,.r,.l,.l,.r,.l,.l,.r]
def B6 (P : PT) (N2 : NTy k1 Pr) (N4 : NTy k2 Pr) (x0 : Value) (x1 x2 : Int) (x3 : Value) (x9 x10 x12 : Int) (H : AHeap) : Prop :=
  idxK x0 (IntKind.i64.wrap (x12 - 1)) 1 (fun b1 o2 => ldI .u64 H b1 o2 (fun v3 => idxK x0 x12 1 (fun b4 o5 => ldI .u64 H b4 o5 (fun v6 => idxK x0 x12 1 (fun b7 o8 => stK H b7 o8 [(Value.int .u64 v3)] (fun H9 => idxK x0 (IntKind.i64.wrap (x12 - 1)) 1 (fun b10 o11 => stK H9 b10 o11 [(Value.int .u64 v6)] (fun H12 => B5 P N2 N4 x0 x1 x2 x3 x9 x10 x12 H12))))))))
theorem q6 (P : PT) (N2 : NTy k1 Pr) (N4 : NTy k2 Pr) : QD Tryz.prog T0 141 o6 [(0, false), (1, false), (2, false), (3, false), (4, false), (5, false), (6, false), (7, false), (8, false), (9, false), (10, false), (11, false), (12, false), (13, false), (14, false), (15, false), (16, false), (17, false)] (En 141 k2 (B5 P N2 N4)) k2 (B6 P N2 N4) := fun _ _ _ _ _ _ _ _ _  => by kernel_rfl
noncomputable def o7 := ob Tryz.f204 [.r,.r,.l,.r,.l,.l,.r,.l,.l,.r,.r,.r,.r,.r,.r,.l,.r,.l,.l,.r,.l,.l,.l,.l]
def B7 (P : PT) (N2 : NTy k1 Pr) (N4 : NTy k2 Pr) (x0 : Value) (x1 x2 : Int) (x3 : Value) (x9 x10 x12 : Int) (H : AHeap) : Prop :=
  idxK x0 x12 1 (fun b1 o2 => ldI .u64 H b1 o2 (fun v3 => idxK x0 (IntKind.i64.wrap (x12 - 1)) 1 (fun b4 o5 => ldI .u64 H b4 o5 (fun v6 => callV Tryz.prog T0 x3 [(Value.int .u64 v3), (Value.int .u64 v6)] H (fun v7 H8 => asI .i64 v7 (fun v9 => pif (!(decide ((v9 : Int) < 0))) (B3 P N2 x0 x1 x2 x3 x9 x10 H8) (B6 P N2 N4 x0 x1 x2 x3 x9 x10 x12 H8)))))))
theorem q7 (P : PT) (N2 : NTy k1 Pr) (N4 : NTy k2 Pr) : QD Tryz.prog T0 141 o7 [(0, false), (1, false), (2, false), (3, false), (4, false), (5, false), (6, false), (7, false), (8, false), (9, false), (10, false), (11, false), (12, false)] (cnd 124 (En 141 k1 (B3 P N2)) (En 141 k2 (B6 P N2 N4))) k2 (B7 P N2 N4) := fun _ _ _ _ _ _ _ _ _  => by kernel_rfl
noncomputable def o8 := ob Tryz.f204 [.r,.r,.l,.r,.l,.l,.r,.l,.l,.r,.r,.r,.r,.r,.r,.l,.r,.l,.l,.l,.l]
def B8 (P : PT) (N2 : NTy k1 Pr) (N4 : NTy k2 Pr) (x0 : Value) (x1 x2 : Int) (x3 : Value) (x9 x10 x12 : Int) (H : AHeap) : Prop :=
  pif (decide ((x12 : Int) < x2)) (B7 P N2 N4 x0 x1 x2 x3 x9 x10 x12 H) (B3 P N2 x0 x1 x2 x3 x9 x10 H)
theorem q8 (P : PT) (N2 : NTy k1 Pr) (N4 : NTy k2 Pr) : QB Tryz.prog T0 141 o8 (cnd 109 (En 141 k2 (B7 P N2 N4)) (En 141 k1 (B3 P N2))) k2 (B8 P N2 N4) := fun _ _ _ _ _ _ _ _ _  => by kernel_rfl
def L4 (P : PT) (N2 : NTy k1 Pr) (x0 : Value) (x1 x2 : Int) (x3 : Value) (x9 x10 x12 : Int) (H : AHeap) : Prop :=
  ∃ (I : NTy k2 Pr) (μ : NTy k2 (AHeap → Nat)), I x0 x1 x2 x3 x9 x10 x12 H ∧ ∀ y0 y1 y2 y3 y9 y10 y12 G, I y0 y1 y2 y3 y9 y10 y12 G → B8 P N2 (fun z0 z1 z2 z3 z9 z10 z12 G' => I z0 z1 z2 z3 z9 z10 z12 G' ∧ μ z0 z1 z2 z3 z9 z10 z12 G' < μ y0 y1 y2 y3 y9 y10 y12 G) y0 y1 y2 y3 y9 y10 y12 G
theorem l4 (P : PT) (N2 : NTy k1 Pr) : LQ k2 (L4 P N2) (B8 P N2) := fun ⟨_,_,_,_,_,_,_,_⟩ _ ⟨I, μ, h0, hI⟩ => ⟨apT _ I, apT _ μ, h0, fun ⟨_,_,_,_,_,_,_,_⟩ _ h => hI _ _ _ _ _ _ _ _  h⟩
noncomputable def o9 := ob Tryz.f204 [.r,.r,.l,.r,.l,.l,.r,.l,.l,.r,.r,.r,.r,.r,.r,.l,.l]
def B9 (P : PT) (N2 : NTy k1 Pr) (x0 : Value) (x1 x2 : Int) (x3 : Value) (x9 x10 : Int) (H : AHeap) : Prop :=
  L4 P N2 x0 x1 x2 x3 x9 x10 (IntKind.i64.wrap (x9 + 1)) H
theorem q9 (P : PT) (N2 : NTy k1 Pr) : QB Tryz.prog T0 141 o9 (En 141 k2 (L4 P N2)) k1 (B9 P N2) := fun _ _ _ _ _ _ _ _  => by kernel_rfl
noncomputable def o10 := ob Tryz.f204 [.r,.r,.l,.r,.l,.l,.r,.l,.l,.r,.r,.r,.r,.r,.l]
def B10 (P : PT) (N2 : NTy k1 Pr) (x0 : Value) (x1 x2 : Int) (x3 : Value) (x9 x10 : Int) (H : AHeap) : Prop :=
  pif (decide ((IntKind.i64.wrap (x2 - x9) : Int) ≥ 2)) (B9 P N2 x0 x1 x2 x3 x9 x10 H) (B3 P N2 x0 x1 x2 x3 x9 x10 H)
theorem q10 (P : PT) (N2 : NTy k1 Pr) : QB Tryz.prog T0 141 o10 (cnd 104 (En 141 k1 (B9 P N2)) (En 141 k1 (B3 P N2))) k1 (B10 P N2) := fun _ _ _ _ _ _ _ _  => by kernel_rfl
abbrev k3 : Sk := [(0,.v),(1,.i .i64),(2,.i .i64),(3,.v),(9,.i .i64),(10,.i .i64),(11,.i .i64)]
noncomputable def o12 := ob Tryz.f204 [.r,.r,.l,.r,.l,.l,.r,.l,.l,.r,.r,.r,.r,.l,.r,.l,.r,.l,.l,.r,.r]
def B12 (P : PT) (N2 : NTy k1 Pr) (N11 : NTy k3 Pr) (x0 : Value) (x1 x2 : Int) (x3 : Value) (x9 x10 x11 : Int) (H : AHeap) : Prop :=
  N11 x0 x1 x2 x3 x9 x10 (IntKind.i64.wrap (x11 - 1)) H
theorem q12 (P : PT) (N2 : NTy k1 Pr) (N11 : NTy k3 Pr) : QB Tryz.prog T0 141 o12 (En 141 k3 N11) k3 (B12 P N2 N11) := fun _ _ _ _ _ _ _ _ _  => by kernel_rfl
noncomputable def o13 := ob Tryz.f204 [.r,.r,.l,.r,.l,.l,.r,.l,.l,.r,.r,.r,.r,.l,.r,.l,.r,.l,.l,.r,.l,.l,.r]
def B13 (P : PT) (N2 : NTy k1 Pr) (N11 : NTy k3 Pr) (x0 : Value) (x1 x2 : Int) (x3 : Value) (x9 x10 x11 : Int) (H : AHeap) : Prop :=
  idxK x0 (IntKind.i64.wrap (x11 - 1)) 1 (fun b1 o2 => ldI .u64 H b1 o2 (fun v3 => idxK x0 x11 1 (fun b4 o5 => ldI .u64 H b4 o5 (fun v6 => idxK x0 x11 1 (fun b7 o8 => stK H b7 o8 [(Value.int .u64 v3)] (fun H9 => idxK x0 (IntKind.i64.wrap (x11 - 1)) 1 (fun b10 o11 => stK H9 b10 o11 [(Value.int .u64 v6)] (fun H12 => B12 P N2 N11 x0 x1 x2 x3 x9 x10 x11 H12))))))))
theorem q13 (P : PT) (N2 : NTy k1 Pr) (N11 : NTy k3 Pr) : QD Tryz.prog T0 141 o13 [(0, false), (1, false), (2, false), (3, false), (4, false), (5, false), (6, false), (7, false), (8, false), (9, false), (10, false), (11, false), (12, false), (13, false), (14, false), (15, false), (16, false), (17, false)] (En 141 k3 (B12 P N2 N11)) k3 (B13 P N2 N11) := fun _ _ _ _ _ _ _ _ _  => by kernel_rfl
noncomputable def o14 := ob Tryz.f204 [.r,.r,.l,.r,.l,.l,.r,.l,.l,.r,.r,.r,.r,.l,.r,.l,.r,.l,.l,.r,.l,.l,.l,.l]
def B14 (P : PT) (N2 : NTy k1 Pr) (N11 : NTy k3 Pr) (x0 : Value) (x1 x2 : Int) (x3 : Value) (x9 x10 x11 : Int) (H : AHeap) : Prop :=
  idxK x0 x11 1 (fun b1 o2 => ldI .u64 H b1 o2 (fun v3 => idxK x0 (IntKind.i64.wrap (x11 - 1)) 1 (fun b4 o5 => ldI .u64 H b4 o5 (fun v6 => callV Tryz.prog T0 x3 [(Value.int .u64 v3), (Value.int .u64 v6)] H (fun v7 H8 => asI .i64 v7 (fun v9 => pif (!(decide ((v9 : Int) < 0))) (B10 P N2 x0 x1 x2 x3 x9 x10 H8) (B13 P N2 N11 x0 x1 x2 x3 x9 x10 x11 H8)))))))
theorem q14 (P : PT) (N2 : NTy k1 Pr) (N11 : NTy k3 Pr) : QD Tryz.prog T0 141 o14 [(0, false), (1, false), (2, false), (3, false), (4, false), (5, false), (6, false), (7, false), (8, false), (9, false), (10, false), (11, false), (12, false)] (cnd 84 (En 141 k1 (B10 P N2)) (En 141 k3 (B13 P N2 N11))) k3 (B14 P N2 N11) := fun _ _ _ _ _ _ _ _ _  => by kernel_rfl
noncomputable def o15 := ob Tryz.f204 [.r,.r,.l,.r,.l,.l,.r,.l,.l,.r,.r,.r,.r,.l,.r,.l,.r,.l,.l,.l,.l]
def B15 (P : PT) (N2 : NTy k1 Pr) (N11 : NTy k3 Pr) (x0 : Value) (x1 x2 : Int) (x3 : Value) (x9 x10 x11 : Int) (H : AHeap) : Prop :=
  pif (decide ((x11 : Int) ≥ 1)) (B14 P N2 N11 x0 x1 x2 x3 x9 x10 x11 H) (B10 P N2 x0 x1 x2 x3 x9 x10 H)
theorem q15 (P : PT) (N2 : NTy k1 Pr) (N11 : NTy k3 Pr) : QB Tryz.prog T0 141 o15 (cnd 69 (En 141 k3 (B14 P N2 N11)) (En 141 k1 (B10 P N2))) k3 (B15 P N2 N11) := fun _ _ _ _ _ _ _ _ _  => by kernel_rfl
def L11 (P : PT) (N2 : NTy k1 Pr) (x0 : Value) (x1 x2 : Int) (x3 : Value) (x9 x10 x11 : Int) (H : AHeap) : Prop :=
  ∃ (I : NTy k3 Pr) (μ : NTy k3 (AHeap → Nat)), I x0 x1 x2 x3 x9 x10 x11 H ∧ ∀ y0 y1 y2 y3 y9 y10 y11 G, I y0 y1 y2 y3 y9 y10 y11 G → B15 P N2 (fun z0 z1 z2 z3 z9 z10 z11 G' => I z0 z1 z2 z3 z9 z10 z11 G' ∧ μ z0 z1 z2 z3 z9 z10 z11 G' < μ y0 y1 y2 y3 y9 y10 y11 G) y0 y1 y2 y3 y9 y10 y11 G
theorem l11 (P : PT) (N2 : NTy k1 Pr) : LQ k3 (L11 P N2) (B15 P N2) := fun ⟨_,_,_,_,_,_,_,_⟩ _ ⟨I, μ, h0, hI⟩ => ⟨apT _ I, apT _ μ, h0, fun ⟨_,_,_,_,_,_,_,_⟩ _ h => hI _ _ _ _ _ _ _ _  h⟩
noncomputable def o16 := ob Tryz.f204 [.r,.r,.l,.r,.l,.l,.r,.l,.l,.r,.r,.r,.r,.l,.r,.l,.l]
def B16 (P : PT) (N2 : NTy k1 Pr) (x0 : Value) (x1 x2 : Int) (x3 : Value) (x9 x10 : Int) (H : AHeap) : Prop :=
  L11 P N2 x0 x1 x2 x3 x9 x10 (IntKind.i64.wrap (x9 - 1)) H
theorem q16 (P : PT) (N2 : NTy k1 Pr) : QB Tryz.prog T0 141 o16 (En 141 k3 (L11 P N2)) k1 (B16 P N2) := fun _ _ _ _ _ _ _ _  => by kernel_rfl
noncomputable def o17 := ob Tryz.f204 [.r,.r,.l,.r,.l,.l,.r,.l,.l,.r,.r,.r,.r,.l,.l]
def B17 (P : PT) (N2 : NTy k1 Pr) (x0 : Value) (x1 x2 : Int) (x3 : Value) (x9 x10 : Int) (H : AHeap) : Prop :=
  pif (decide ((IntKind.i64.wrap (x9 - x1) : Int) ≥ 2)) (B16 P N2 x0 x1 x2 x3 x9 x10 H) (B10 P N2 x0 x1 x2 x3 x9 x10 H)
theorem q17 (P : PT) (N2 : NTy k1 Pr) : QB Tryz.prog T0 141 o17 (cnd 65 (En 141 k1 (B16 P N2)) (En 141 k1 (B10 P N2))) k1 (B17 P N2) := fun _ _ _ _ _ _ _ _  => by kernel_rfl
noncomputable def o18 := ob Tryz.f204 [.r,.r,.l,.r,.l,.l,.r,.l,.l,.r,.r,.r,.l]
def B18 (P : PT) (N2 : NTy k1 Pr) (x0 : Value) (x1 x2 : Int) (x3 : Value) (x9 x10 : Int) (H : AHeap) : Prop :=
  idxK x0 (IntKind.i64.wrap (x9 - 1)) 1 (fun b1 o2 => ldI .u64 H b1 o2 (fun v3 => idxK x0 x9 1 (fun b4 o5 => ldI .u64 H b4 o5 (fun v6 => idxK x0 x9 1 (fun b7 o8 => stK H b7 o8 [(Value.int .u64 v3)] (fun H9 => idxK x0 (IntKind.i64.wrap (x9 - 1)) 1 (fun b10 o11 => stK H9 b10 o11 [(Value.int .u64 v6)] (fun H12 => B17 P N2 x0 x1 x2 x3 x9 x10 H12))))))))
theorem q18 (P : PT) (N2 : NTy k1 Pr) : QD Tryz.prog T0 141 o18 [(0, false), (1, false), (2, false), (3, false), (4, false), (5, false), (6, false), (7, false), (8, false), (9, false), (10, false), (11, false), (12, false), (13, false), (14, false), (15, false), (16, false), (17, false)] (En 141 k1 (B17 P N2)) k1 (B18 P N2) := fun _ _ _ _ _ _ _ _  => by kernel_rfl
noncomputable def o19 := ob Tryz.f204 [.r,.r,.l,.r,.l,.l,.r,.l,.l,.r,.r,.l,.r,.l,.l]
def B19 (P : PT) (N2 : NTy k1 Pr) (H : AHeap) : Prop :=
  P (Value.bool false) H
theorem q19 (P : PT) (N2 : NTy k1 Pr) : QB Tryz.prog T0 141 o19 (ret P) k0 (B19 P N2) := fun _ _  => by kernel_rfl
noncomputable def o20 := ob Tryz.f204 [.r,.r,.l,.r,.l,.l,.r,.l,.l,.r,.r,.l,.l]
def B20 (P : PT) (N2 : NTy k1 Pr) (x0 : Value) (x1 x2 : Int) (x3 : Value) (x9 x10 : Int) (H : AHeap) : Prop :=
  pif (decide ((IntKind.i64.wrap (x2 - x1) : Int) < 50)) (B19 P N2 H) (B18 P N2 x0 x1 x2 x3 x9 x10 H)
theorem q20 (P : PT) (N2 : NTy k1 Pr) : QB Tryz.prog T0 141 o20 (cnd 45 (En 141 k0 (B19 P N2)) (En 141 k1 (B18 P N2))) k1 (B20 P N2) := fun _ _ _ _ _ _ _ _  => by kernel_rfl
noncomputable def o21 := ob Tryz.f204 [.r,.r,.l,.r,.l,.l,.r,.l,.l,.r,.l,.r,.l,.l]
def B21 (P : PT) (N2 : NTy k1 Pr) (H : AHeap) : Prop :=
  P (Value.bool true) H
theorem q21 (P : PT) (N2 : NTy k1 Pr) : QB Tryz.prog T0 141 o21 (ret P) k0 (B21 P N2) := fun _ _  => by kernel_rfl
noncomputable def o22 := ob Tryz.f204 [.r,.r,.l,.r,.l,.l,.r,.l,.l,.r,.l,.l]
def B22 (P : PT) (N2 : NTy k1 Pr) (x0 : Value) (x1 x2 : Int) (x3 : Value) (x9 x10 : Int) (H : AHeap) : Prop :=
  pif ((x9 : Int) == x2) (B21 P N2 H) (B20 P N2 x0 x1 x2 x3 x9 x10 H)
theorem q22 (P : PT) (N2 : NTy k1 Pr) : QB Tryz.prog T0 141 o22 (cnd 41 (En 141 k0 (B21 P N2)) (En 141 k1 (B20 P N2))) k1 (B22 P N2) := fun _ _ _ _ _ _ _ _  => by kernel_rfl
noncomputable def o24 := ob Tryz.f204 [.r,.r,.l,.r,.l,.l,.r,.l,.l,.l,.l,.l,.r,.l]
def B24 (P : PT) (N2 : NTy k1 Pr) (N23 : NTy k1 Pr) (x0 : Value) (x1 x2 : Int) (x3 : Value) (x9 x10 : Int) (H : AHeap) : Prop :=
  N23 x0 x1 x2 x3 (IntKind.i64.wrap (x9 + 1)) x10 H
theorem q24 (P : PT) (N2 : NTy k1 Pr) (N23 : NTy k1 Pr) : QB Tryz.prog T0 141 o24 (En 141 k1 N23) k1 (B24 P N2 N23) := fun _ _ _ _ _ _ _ _  => by kernel_rfl
noncomputable def o25 := ob Tryz.f204 [.r,.r,.l,.r,.l,.l,.r,.l,.l,.l,.l,.l,.l,.l]
def B25 (P : PT) (N2 : NTy k1 Pr) (N23 : NTy k1 Pr) (x0 : Value) (x1 x2 : Int) (x3 : Value) (x9 x10 : Int) (H : AHeap) : Prop :=
  pif (decide ((x9 : Int) < x2)) (idxK x0 x9 1 (fun b1 o2 => ldI .u64 H b1 o2 (fun v3 => idxK x0 (IntKind.i64.wrap (x9 - 1)) 1 (fun b4 o5 => ldI .u64 H b4 o5 (fun v6 => callV Tryz.prog T0 x3 [(Value.int .u64 v3), (Value.int .u64 v6)] H (fun v7 H8 => asI .i64 v7 (fun v9 => pif (!(decide ((v9 : Int) < 0))) (B24 P N2 N23 x0 x1 x2 x3 x9 x10 H8) (B22 P N2 x0 x1 x2 x3 x9 x10 H8)))))))) (B22 P N2 x0 x1 x2 x3 x9 x10 H)
theorem q25 (P : PT) (N2 : NTy k1 Pr) (N23 : NTy k1 Pr) : QD Tryz.prog T0 141 o25 [(0, false), (1, false), (2, false), (3, false), (4, false), (5, false), (6, false), (7, false), (8, false), (9, false), (10, false), (11, false), (12, false), (13, false), (14, false), (15, false), (16, false), (17, false)] (cnd 36 (En 141 k1 (B24 P N2 N23)) (En 141 k1 (B22 P N2))) k1 (B25 P N2 N23) := fun _ _ _ _ _ _ _ _  => by kernel_rfl
def L23 (P : PT) (N2 : NTy k1 Pr) (x0 : Value) (x1 x2 : Int) (x3 : Value) (x9 x10 : Int) (H : AHeap) : Prop :=
  ∃ (I : NTy k1 Pr) (μ : NTy k1 (AHeap → Nat)), I x0 x1 x2 x3 x9 x10 H ∧ ∀ y0 y1 y2 y3 y9 y10 G, I y0 y1 y2 y3 y9 y10 G → B25 P N2 (fun z0 z1 z2 z3 z9 z10 G' => I z0 z1 z2 z3 z9 z10 G' ∧ μ z0 z1 z2 z3 z9 z10 G' < μ y0 y1 y2 y3 y9 y10 G) y0 y1 y2 y3 y9 y10 G
theorem l23 (P : PT) (N2 : NTy k1 Pr) : LQ k1 (L23 P N2) (B25 P N2) := fun ⟨_,_,_,_,_,_,_⟩ _ ⟨I, μ, h0, hI⟩ => ⟨apT _ I, apT _ μ, h0, fun ⟨_,_,_,_,_,_,_⟩ _ h => hI _ _ _ _ _ _ _  h⟩
noncomputable def o26 := ob Tryz.f204 [.r,.r,.l,.r,.l,.l,.l,.l]
def B26 (P : PT) (N2 : NTy k1 Pr) (x0 : Value) (x1 x2 : Int) (x3 : Value) (x9 x10 : Int) (H : AHeap) : Prop :=
  pif (decide ((x10 : Int) < 5)) (L23 P N2 x0 x1 x2 x3 x9 x10 H) (B1 P H)
theorem q26 (P : PT) (N2 : NTy k1 Pr) : QB Tryz.prog T0 141 o26 (cnd 16 (En 141 k1 (L23 P N2)) (En 141 k0 (B1 P))) k1 (B26 P N2) := fun _ _ _ _ _ _ _ _  => by kernel_rfl
def L2 (P : PT) (x0 : Value) (x1 x2 : Int) (x3 : Value) (x9 x10 : Int) (H : AHeap) : Prop :=
  ∃ (I : NTy k1 Pr) (μ : NTy k1 (AHeap → Nat)), I x0 x1 x2 x3 x9 x10 H ∧ ∀ y0 y1 y2 y3 y9 y10 G, I y0 y1 y2 y3 y9 y10 G → B26 P (fun z0 z1 z2 z3 z9 z10 G' => I z0 z1 z2 z3 z9 z10 G' ∧ μ z0 z1 z2 z3 z9 z10 G' < μ y0 y1 y2 y3 y9 y10 G) y0 y1 y2 y3 y9 y10 G
theorem l2 (P : PT) : LQ k1 (L2 P) (B26 P) := fun ⟨_,_,_,_,_,_,_⟩ _ ⟨I, μ, h0, hI⟩ => ⟨apT _ I, apT _ μ, h0, fun ⟨_,_,_,_,_,_,_⟩ _ h => hI _ _ _ _ _ _ _  h⟩
abbrev k4 : Sk := [(0,.v),(1,.i .i64),(2,.i .i64),(3,.v),(9,.i .i64)]
noncomputable def o27 := ob Tryz.f204 [.r,.r,.l,.l]
def B27 (P : PT) (x0 : Value) (x1 x2 : Int) (x3 : Value) (x9 : Int) (H : AHeap) : Prop :=
  L2 P x0 x1 x2 x3 x9 0 H
theorem q27 (P : PT) : QB Tryz.prog T0 141 o27 (En 141 k1 (L2 P)) k4 (B27 P) := fun _ _ _ _ _ _ _  => by kernel_rfl
abbrev k5 : Sk := [(0,.v),(1,.i .i64),(2,.i .i64),(3,.v)]
noncomputable def o28 := ob Tryz.f204 [.r,.l]
def B28 (P : PT) (x0 : Value) (x1 x2 : Int) (x3 : Value) (H : AHeap) : Prop :=
  B27 P x0 x1 x2 x3 (IntKind.i64.wrap (x1 + 1)) H
theorem q28 (P : PT) : QB Tryz.prog T0 141 o28 (En 141 k4 (B27 P)) k5 (B28 P) := fun _ _ _ _ _ _  => by kernel_rfl
noncomputable def o29 := ob Tryz.f204 [.l]
def B29 (P : PT) (x0 : Value) (x1 x2 : Int) (x3 : Value) (H : AHeap) : Prop :=
  B28 P x0 x1 x2 x3 H
theorem q29 (P : PT) : QB Tryz.prog T0 141 o29 (En 141 k5 (B28 P)) k5 (B29 P) := fun _ _ _ _ _ _  => by kernel_rfl
noncomputable def code : Code := (.seq (.region 0 ⟨o29⟩ false) (.seq (.region 1 ⟨o28⟩ false) (.seq (.seq (.region 2 ⟨o27⟩ false) (.block 0 (.loop (.seq (.seq (.region 3 ⟨o26⟩ false) (.cond (.tmp 16) .skip (.exit 0))) (.seq (.block 1 (.seq (.block 2 (.loop (.seq (.seq (.region 5 ⟨o25⟩ true) (.cond (.tmp 36) .skip (.exit 2))) (.block 3 (.region 6 ⟨o24⟩ false))))) (.seq (.seq (.region 7 ⟨o22⟩ false) (.cond (.tmp 41) (.seq (.region 8 ⟨o21⟩ false) .ret) .skip)) (.seq (.seq (.region 9 ⟨o20⟩ false) (.cond (.tmp 45) (.seq (.region 10 ⟨o19⟩ false) .ret) .skip)) (.seq (.region 11 ⟨o18⟩ true) (.seq (.seq (.region 12 ⟨o17⟩ false) (.cond (.tmp 65) (.seq (.region 13 ⟨o16⟩ false) (.block 4 (.loop (.seq (.seq (.region 14 ⟨o15⟩ false) (.cond (.tmp 69) .skip (.exit 4))) (.seq (.block 5 (.seq (.seq (.region 16 ⟨o14⟩ true) (.cond (.tmp 84) (.exit 4) .skip)) (.region 17 ⟨o13⟩ true))) (.region 15 ⟨o12⟩ false)))))) .skip)) (.seq (.region 18 ⟨o10⟩ false) (.cond (.tmp 104) (.seq (.region 19 ⟨o9⟩ false) (.block 6 (.loop (.seq (.seq (.region 20 ⟨o8⟩ false) (.cond (.tmp 109) .skip (.exit 6))) (.seq (.block 7 (.seq (.seq (.region 22 ⟨o7⟩ true) (.cond (.tmp 124) (.exit 6) .skip)) (.region 23 ⟨o6⟩ true))) (.region 21 ⟨o5⟩ false)))))) .skip)))))))) (.region 4 ⟨o3⟩ false)))))) (.seq (.region 24 ⟨o1⟩ false) .ret))))
theorem body : Tryz.f204.body = some code := by kernel_rfl
theorem main (P : PT) : ∀ env H, (En 141 k5 (B29 P)) env H → AW Tryz.prog T0 code env H (mkQ (ret P) (fun _ _ _ => False) (ret P)) :=
  (r_seq (rB T0_ok (q29 P)) (r_seq (rB T0_ok (q28 P)) (r_seq (r_seq (rB T0_ok (q27 P)) (r_block (rL (l2 P) (fun N2 => (r_seq (r_seq (rB T0_ok (q26 P N2)) (r_cond rfl r_skip (r_exit (fun _ _ h => h)))) (r_seq (r_block (r_seq (r_block (rL (l23 P N2) (fun N23 => (r_seq (r_seq (rD T0_ok mixed [(0, false), (1, false), (2, false), (3, false), (4, false), (5, false), (6, false), (7, false), (8, false), (9, false), (10, false), (11, false), (12, false), (13, false), (14, false), (15, false), (16, false), (17, false)] (by kernel_rfl) (q25 P N2 N23)) (r_cond rfl r_skip (r_exit (fun _ _ h => h)))) (r_block (rB T0_ok (q24 P N2 N23))))))) (r_seq (r_seq (rB T0_ok (q22 P N2)) (r_cond rfl (r_seq (rB T0_ok (q21 P N2)) r_ret) r_skip)) (r_seq (r_seq (rB T0_ok (q20 P N2)) (r_cond rfl (r_seq (rB T0_ok (q19 P N2)) r_ret) r_skip)) (r_seq (rD T0_ok mixed [(0, false), (1, false), (2, false), (3, false), (4, false), (5, false), (6, false), (7, false), (8, false), (9, false), (10, false), (11, false), (12, false), (13, false), (14, false), (15, false), (16, false), (17, false)] (by kernel_rfl) (q18 P N2)) (r_seq (r_seq (rB T0_ok (q17 P N2)) (r_cond rfl (r_seq (rB T0_ok (q16 P N2)) (r_block (rL (l11 P N2) (fun N11 => (r_seq (r_seq (rB T0_ok (q15 P N2 N11)) (r_cond rfl r_skip (r_exit (fun _ _ h => h)))) (r_seq (r_block (r_seq (r_seq (rD T0_ok mixed [(0, false), (1, false), (2, false), (3, false), (4, false), (5, false), (6, false), (7, false), (8, false), (9, false), (10, false), (11, false), (12, false)] (by kernel_rfl) (q14 P N2 N11)) (r_cond rfl (r_exit (fun _ _ h => h)) r_skip)) (rD T0_ok mixed [(0, false), (1, false), (2, false), (3, false), (4, false), (5, false), (6, false), (7, false), (8, false), (9, false), (10, false), (11, false), (12, false), (13, false), (14, false), (15, false), (16, false), (17, false)] (by kernel_rfl) (q13 P N2 N11)))) (rB T0_ok (q12 P N2 N11)))))))) r_skip)) (r_seq (rB T0_ok (q10 P N2)) (r_cond rfl (r_seq (rB T0_ok (q9 P N2)) (r_block (rL (l4 P N2) (fun N4 => (r_seq (r_seq (rB T0_ok (q8 P N2 N4)) (r_cond rfl r_skip (r_exit (fun _ _ h => h)))) (r_seq (r_block (r_seq (r_seq (rD T0_ok mixed [(0, false), (1, false), (2, false), (3, false), (4, false), (5, false), (6, false), (7, false), (8, false), (9, false), (10, false), (11, false), (12, false)] (by kernel_rfl) (q7 P N2 N4)) (r_cond rfl (r_exit (fun _ _ h => h)) r_skip)) (rD T0_ok mixed [(0, false), (1, false), (2, false), (3, false), (4, false), (5, false), (6, false), (7, false), (8, false), (9, false), (10, false), (11, false), (12, false), (13, false), (14, false), (15, false), (16, false), (17, false)] (by kernel_rfl) (q6 P N2 N4)))) (rB T0_ok (q5 P N2 N4)))))))) r_skip)))))))) (rB T0_ok (q3 P N2)))))))) (r_seq (rB T0_ok (q1 P)) r_ret))))
theorem ac (P : PT) (x0 : Value) (x1 x2 : Int) (x3 : Value) (H : AHeap) (h : B29 P x0 x1 x2 x3 H) : AC Tryz.prog T0 204 [x0, (Value.int .i64 x1), (Value.int .i64 x2), x3] H P :=
  r_fn T0_ok (c := code) (n := 141) Tryz.func204 body (by kernel_rfl) (main P) (En_mk (x0, x1, x2, x3, ()) (by kernel_rfl) ⟨by kernel_rfl, by kernel_rfl, by kernel_rfl, by kernel_rfl, trivial⟩ h)

end F204
-- slices.partitionEqualCmpFunc[loop.example/g01329/impl.set]
namespace F205
noncomputable def ret (P : PT) : EP := retE T0 90 Tryz.f205 P
abbrev k0 : Sk := [(11,.i .i64)]
noncomputable def o1 := ob Tryz.f205 [.r,.r,.r,.r,.l]
def B1 (P : PT) (x11 : Int) (H : AHeap) : Prop :=
  P (Value.int .i64 x11) H
theorem q1 (P : PT) : QB Tryz.prog T0 90 o1 (ret P) k0 (B1 P) := fun _ _ _  => by kernel_rfl
abbrev k1 : Sk := [(0,.v),(1,.i .i64),(4,.v),(11,.i .i64),(12,.i .i64)]
noncomputable def o3 := ob Tryz.f205 [.r,.r,.r,.l,.l,.l,.l,.r,.r,.r,.r,.r]
def B3 (P : PT) (N2 : NTy k1 Pr) (x0 : Value) (x1 : Int) (x4 : Value) (x11 x12 : Int) (H : AHeap) : Prop :=
  N2 x0 x1 x4 x11 (IntKind.i64.wrap (x12 - 1)) H
theorem q3 (P : PT) (N2 : NTy k1 Pr) : QB Tryz.prog T0 90 o3 (En 90 k1 N2) k1 (B3 P N2) := fun _ _ _ _ _ _ _  => by kernel_rfl
noncomputable def o4 := ob Tryz.f205 [.r,.r,.r,.l,.l,.l,.l,.r,.r,.r,.r,.l]
def B4 (P : PT) (N2 : NTy k1 Pr) (x0 : Value) (x1 : Int) (x4 : Value) (x11 x12 : Int) (H : AHeap) : Prop :=
  B3 P N2 x0 x1 x4 (IntKind.i64.wrap (x11 + 1)) x12 H
theorem q4 (P : PT) (N2 : NTy k1 Pr) : QB Tryz.prog T0 90 o4 (En 90 k1 (B3 P N2)) k1 (B4 P N2) := fun _ _ _ _ _ _ _  => by kernel_rfl
noncomputable def o5 := ob Tryz.f205 [.r,.r,.r,.l,.l,.l,.l,.r,.r,.r,.l]
def B5 (P : PT) (N2 : NTy k1 Pr) (x0 : Value) (x1 : Int) (x4 : Value) (x11 x12 : Int) (H : AHeap) : Prop :=
  idxK x0 x12 1 (fun b1 o2 => ldI .u64 H b1 o2 (fun v3 => idxK x0 x11 1 (fun b4 o5 => ldI .u64 H b4 o5 (fun v6 => idxK x0 x11 1 (fun b7 o8 => stK H b7 o8 [(Value.int .u64 v3)] (fun H9 => idxK x0 x12 1 (fun b10 o11 => stK H9 b10 o11 [(Value.int .u64 v6)] (fun H12 => B4 P N2 x0 x1 x4 x11 x12 H12))))))))
theorem q5 (P : PT) (N2 : NTy k1 Pr) : QD Tryz.prog T0 90 o5 [(0, false), (1, false), (2, false), (3, false), (4, false), (5, false), (6, false), (7, false), (8, false), (9, false), (10, false), (11, false), (12, false), (13, false), (14, false), (15, false)] (En 90 k1 (B4 P N2)) k1 (B5 P N2) := fun _ _ _ _ _ _ _  => by kernel_rfl
noncomputable def o6 := ob Tryz.f205 [.r,.r,.r,.l,.l,.l,.l,.r,.r,.l,.l]
def B6 (P : PT) (N2 : NTy k1 Pr) (x0 : Value) (x1 : Int) (x4 : Value) (x11 x12 : Int) (H : AHeap) : Prop :=
  pif (decide ((x11 : Int) > x12)) (B1 P x11 H) (B5 P N2 x0 x1 x4 x11 x12 H)
theorem q6 (P : PT) (N2 : NTy k1 Pr) : QB Tryz.prog T0 90 o6 (cnd 70 (En 90 k0 (B1 P)) (En 90 k1 (B5 P N2))) k1 (B6 P N2) := fun _ _ _ _ _ _ _  => by kernel_rfl
noncomputable def o8 := ob Tryz.f205 [.r,.r,.r,.l,.l,.l,.l,.r,.l,.l,.l,.r,.l]
def B8 (P : PT) (N2 : NTy k1 Pr) (N7 : NTy k1 Pr) (x0 : Value) (x1 : Int) (x4 : Value) (x11 x12 : Int) (H : AHeap) : Prop :=
  N7 x0 x1 x4 x11 (IntKind.i64.wrap (x12 - 1)) H
theorem q8 (P : PT) (N2 : NTy k1 Pr) (N7 : NTy k1 Pr) : QB Tryz.prog T0 90 o8 (En 90 k1 N7) k1 (B8 P N2 N7) := fun _ _ _ _ _ _ _  => by kernel_rfl
noncomputable def o9 := ob Tryz.f205 [.r,.r,.r,.l,.l,.l,.l,.r,.l,.l,.l,.l,.l]
def B9 (P : PT) (N2 : NTy k1 Pr) (N7 : NTy k1 Pr) (x0 : Value) (x1 : Int) (x4 : Value) (x11 x12 : Int) (H : AHeap) : Prop :=
  pif (decide ((x11 : Int) ≤ x12)) (idxK x0 x1 1 (fun b1 o2 => ldI .u64 H b1 o2 (fun v3 => idxK x0 x12 1 (fun b4 o5 => ldI .u64 H b4 o5 (fun v6 => callV Tryz.prog T0 x4 [(Value.int .u64 v3), (Value.int .u64 v6)] H (fun v7 H8 => asI .i64 v7 (fun v9 => pif (decide ((v9 : Int) < 0)) (B8 P N2 N7 x0 x1 x4 x11 x12 H8) (B6 P N2 x0 x1 x4 x11 x12 H8)))))))) (B6 P N2 x0 x1 x4 x11 x12 H)
theorem q9 (P : PT) (N2 : NTy k1 Pr) (N7 : NTy k1 Pr) : QD Tryz.prog T0 90 o9 [(0, false), (1, false), (2, false), (3, false), (4, false), (5, false), (6, false), (7, false), (8, false), (9, false), (10, false), (11, false), (12, false), (13, false), (14, false), (15, false)] (cnd 65 (En 90 k1 (B8 P N2 N7)) (En 90 k1 (B6 P N2))) k1 (B9 P N2 N7) := fun _ _ _ _ _ _ _  => by kernel_rfl
def L7 (P : PT) (N2 : NTy k1 Pr) (x0 : Value) (x1 : Int) (x4 : Value) (x11 x12 : Int) (H : AHeap) : Prop :=
  ∃ (I : NTy k1 Pr) (μ : NTy k1 (AHeap → Nat)), I x0 x1 x4 x11 x12 H ∧ ∀ y0 y1 y4 y11 y12 G, I y0 y1 y4 y11 y12 G → B9 P N2 (fun z0 z1 z4 z11 z12 G' => I z0 z1 z4 z11 z12 G' ∧ μ z0 z1 z4 z11 z12 G' < μ y0 y1 y4 y11 y12 G) y0 y1 y4 y11 y12 G
theorem l7 (P : PT) (N2 : NTy k1 Pr) : LQ k1 (L7 P N2) (B9 P N2) := fun ⟨_,_,_,_,_,_⟩ _ ⟨I, μ, h0, hI⟩ => ⟨apT _ I, apT _ μ, h0, fun ⟨_,_,_,_,_,_⟩ _ h => hI _ _ _ _ _ _  h⟩
noncomputable def o11 := ob Tryz.f205 [.r,.r,.r,.l,.l,.l,.l,.l,.l,.l,.r,.l]
def B11 (P : PT) (N2 : NTy k1 Pr) (N10 : NTy k1 Pr) (x0 : Value) (x1 : Int) (x4 : Value) (x11 x12 : Int) (H : AHeap) : Prop :=
  N10 x0 x1 x4 (IntKind.i64.wrap (x11 + 1)) x12 H
theorem q11 (P : PT) (N2 : NTy k1 Pr) (N10 : NTy k1 Pr) : QB Tryz.prog T0 90 o11 (En 90 k1 N10) k1 (B11 P N2 N10) := fun _ _ _ _ _ _ _  => by kernel_rfl
noncomputable def o12 := ob Tryz.f205 [.r,.r,.r,.l,.l,.l,.l,.l,.l,.l,.l,.l]
def B12 (P : PT) (N2 : NTy k1 Pr) (N10 : NTy k1 Pr) (x0 : Value) (x1 : Int) (x4 : Value) (x11 x12 : Int) (H : AHeap) : Prop :=
  pif (decide ((x11 : Int) ≤ x12)) (idxK x0 x1 1 (fun b1 o2 => ldI .u64 H b1 o2 (fun v3 => idxK x0 x11 1 (fun b4 o5 => ldI .u64 H b4 o5 (fun v6 => callV Tryz.prog T0 x4 [(Value.int .u64 v3), (Value.int .u64 v6)] H (fun v7 H8 => asI .i64 v7 (fun v9 => pif (!(decide ((v9 : Int) < 0))) (B11 P N2 N10 x0 x1 x4 x11 x12 H8) (L7 P N2 x0 x1 x4 x11 x12 H8)))))))) (L7 P N2 x0 x1 x4 x11 x12 H)
theorem q12 (P : PT) (N2 : NTy k1 Pr) (N10 : NTy k1 Pr) : QD Tryz.prog T0 90 o12 [(0, false), (1, false), (2, false), (3, false), (4, false), (5, false), (6, false), (7, false), (8, false), (9, false), (10, false), (11, false), (12, false), (13, false), (14, false), (15, false), (16, false)] (cnd 47 (En 90 k1 (B11 P N2 N10)) (En 90 k1 (L7 P N2))) k1 (B12 P N2 N10) := fun _ _ _ _ _ _ _  => by kernel_rfl
def L10 (P : PT) (N2 : NTy k1 Pr) (x0 : Value) (x1 : Int) (x4 : Value) (x11 x12 : Int) (H : AHeap) : Prop :=
  ∃ (I : NTy k1 Pr) (μ : NTy k1 (AHeap → Nat)), I x0 x1 x4 x11 x12 H ∧ ∀ y0 y1 y4 y11 y12 G, I y0 y1 y4 y11 y12 G → B12 P N2 (fun z0 z1 z4 z11 z12 G' => I z0 z1 z4 z11 z12 G' ∧ μ z0 z1 z4 z11 z12 G' < μ y0 y1 y4 y11 y12 G) y0 y1 y4 y11 y12 G
theorem l10 (P : PT) (N2 : NTy k1 Pr) : LQ k1 (L10 P N2) (B12 P N2) := fun ⟨_,_,_,_,_,_⟩ _ ⟨I, μ, h0, hI⟩ => ⟨apT _ I, apT _ μ, h0, fun ⟨_,_,_,_,_,_⟩ _ h => hI _ _ _ _ _ _  h⟩
def L2 (P : PT) (x0 : Value) (x1 : Int) (x4 : Value) (x11 x12 : Int) (H : AHeap) : Prop :=
  ∃ (I : NTy k1 Pr) (μ : NTy k1 (AHeap → Nat)), I x0 x1 x4 x11 x12 H ∧ ∀ y0 y1 y4 y11 y12 G, I y0 y1 y4 y11 y12 G → L10 P (fun z0 z1 z4 z11 z12 G' => I z0 z1 z4 z11 z12 G' ∧ μ z0 z1 z4 z11 z12 G' < μ y0 y1 y4 y11 y12 G) y0 y1 y4 y11 y12 G
theorem l2 (P : PT) : LQ k1 (L2 P) (L10 P) := fun ⟨_,_,_,_,_,_⟩ _ ⟨I, μ, h0, hI⟩ => ⟨apT _ I, apT _ μ, h0, fun ⟨_,_,_,_,_,_⟩ _ h => hI _ _ _ _ _ _  h⟩
abbrev k2 : Sk := [(0,.v),(1,.i .i64),(2,.i .i64),(4,.v)]
noncomputable def o13 := ob Tryz.f205 [.r,.r,.l]
def B13 (P : PT) (x0 : Value) (x1 x2 : Int) (x4 : Value) (H : AHeap) : Prop :=
  L2 P x0 x1 x4 (IntKind.i64.wrap (x1 + 1)) (IntKind.i64.wrap (x2 - 1)) H
theorem q13 (P : PT) : QB Tryz.prog T0 90 o13 (En 90 k1 (L2 P)) k2 (B13 P) := fun _ _ _ _ _ _  => by kernel_rfl
abbrev k3 : Sk := [(0,.v),(1,.i .i64),(2,.i .i64),(3,.i .i64),(4,.v)]
noncomputable def o14 := ob Tryz.f205 [.r,.l]
def B14 (P : PT) (x0 : Value) (x1 x2 x3 : Int) (x4 : Value) (H : AHeap) : Prop :=
  idxK x0 x3 1 (fun b1 o2 => ldI .u64 H b1 o2 (fun v3 => idxK x0 x1 1 (fun b4 o5 => ldI .u64 H b4 o5 (fun v6 => idxK x0 x1 1 (fun b7 o8 => stK H b7 o8 [(Value.int .u64 v3)] (fun H9 => idxK x0 x3 1 (fun b10 o11 => stK H9 b10 o11 [(Value.int .u64 v6)] (fun H12 => B13 P x0 x1 x2 x4 H12))))))))
theorem q14 (P : PT) : QD Tryz.prog T0 90 o14 [(0, false), (1, false), (2, false), (3, false), (4, false), (5, false), (6, false), (7, false), (8, false), (9, false), (10, false), (11, false), (12, false), (13, false), (14, false), (15, false)] (En 90 k2 (B13 P)) k3 (B14 P) := fun _ _ _ _ _ _ _  => by kernel_rfl
noncomputable def o15 := ob Tryz.f205 [.l]
def B15 (P : PT) (x0 : Value) (x1 x2 x3 : Int) (x4 : Value) (H : AHeap) : Prop :=
  B14 P x0 x1 x2 x3 x4 H
theorem q15 (P : PT) : QB Tryz.prog T0 90 o15 (En 90 k3 (B14 P)) k3 (B15 P) := fun _ _ _ _ _ _ _  => by kernel_rfl
noncomputable def code : Code := (.seq (.region 0 ⟨o15⟩ false) (.seq (.region 1 ⟨o14⟩ true) (.seq (.region 2 ⟨o13⟩ false) (.seq (.block 0 (.loop (.block 1 (.seq (.block 2 (.loop (.seq (.seq (.region 3 ⟨o12⟩ true) (.cond (.tmp 47) .skip (.exit 2))) (.block 3 (.region 4 ⟨o11⟩ false))))) (.seq (.block 4 (.loop (.seq (.seq (.region 5 ⟨o9⟩ true) (.cond (.tmp 65) .skip (.exit 4))) (.block 5 (.region 6 ⟨o8⟩ false))))) (.seq (.seq (.region 7 ⟨o6⟩ false) (.cond (.tmp 70) (.exit 0) .skip)) (.seq (.region 8 ⟨o5⟩ true) (.seq (.region 9 ⟨o4⟩ false) (.region 10 ⟨o3⟩ false))))))))) (.seq (.region 11 ⟨o1⟩ false) .ret)))))
theorem body : Tryz.f205.body = some code := by kernel_rfl
theorem main (P : PT) : ∀ env H, (En 90 k3 (B15 P)) env H → AW Tryz.prog T0 code env H (mkQ (ret P) (fun _ _ _ => False) (ret P)) :=
  (r_seq (rB T0_ok (q15 P)) (r_seq (rD T0_ok mixed [(0, false), (1, false), (2, false), (3, false), (4, false), (5, false), (6, false), (7, false), (8, false), (9, false), (10, false), (11, false), (12, false), (13, false), (14, false), (15, false)] (by kernel_rfl) (q14 P)) (r_seq (rB T0_ok (q13 P)) (r_seq (r_block (rL (l2 P) (fun N2 => (r_block (r_seq (r_block (rL (l10 P N2) (fun N10 => (r_seq (r_seq (rD T0_ok mixed [(0, false), (1, false), (2, false), (3, false), (4, false), (5, false), (6, false), (7, false), (8, false), (9, false), (10, false), (11, false), (12, false), (13, false), (14, false), (15, false), (16, false)] (by kernel_rfl) (q12 P N2 N10)) (r_cond rfl r_skip (r_exit (fun _ _ h => h)))) (r_block (rB T0_ok (q11 P N2 N10))))))) (r_seq (r_block (rL (l7 P N2) (fun N7 => (r_seq (r_seq (rD T0_ok mixed [(0, false), (1, false), (2, false), (3, false), (4, false), (5, false), (6, false), (7, false), (8, false), (9, false), (10, false), (11, false), (12, false), (13, false), (14, false), (15, false)] (by kernel_rfl) (q9 P N2 N7)) (r_cond rfl r_skip (r_exit (fun _ _ h => h)))) (r_block (rB T0_ok (q8 P N2 N7))))))) (r_seq (r_seq (rB T0_ok (q6 P N2)) (r_cond rfl (r_exit (fun _ _ h => h)) r_skip)) (r_seq (rD T0_ok mixed [(0, false), (1, false), (2, false), (3, false), (4, false), (5, false), (6, false), (7, false), (8, false), (9, false), (10, false), (11, false), (12, false), (13, false), (14, false), (15, false)] (by kernel_rfl) (q5 P N2)) (r_seq (rB T0_ok (q4 P N2)) (rB T0_ok (q3 P N2))))))))))) (r_seq (rB T0_ok (q1 P)) r_ret)))))
theorem ac (P : PT) (x0 : Value) (x1 x2 x3 : Int) (x4 : Value) (H : AHeap) (h : B15 P x0 x1 x2 x3 x4 H) : AC Tryz.prog T0 205 [x0, (Value.int .i64 x1), (Value.int .i64 x2), (Value.int .i64 x3), x4] H P :=
  r_fn T0_ok (c := code) (n := 90) Tryz.func205 body (by kernel_rfl) (main P) (En_mk (x0, x1, x2, x3, x4, ()) (by kernel_rfl) ⟨by kernel_rfl, by kernel_rfl, by kernel_rfl, by kernel_rfl, by kernel_rfl, trivial⟩ h)

end F205
-- slices.partitionCmpFunc[loop.example/g01329/impl.set]
namespace F206
noncomputable def ret (P : PT) : EP := retE T0 178 Tryz.f206 P
abbrev k0 : Sk := [(13,.i .i64)]
noncomputable def o1 := ob Tryz.f206 [.r,.r,.r,.r,.r,.r,.r,.r,.r,.r,.r,.l]
def B1 (P : PT) (x13 : Int) (H : AHeap) : Prop :=
  P (Value.tuple ⟨[(Value.int .i64 x13), (Value.bool false)]⟩) H
theorem q1 (P : PT) : QB Tryz.prog T0 178 o1 (ret P) k0 (B1 P) := fun _ _ _  => by kernel_rfl
abbrev k1 : Sk := [(0,.v),(1,.i .i64),(13,.i .i64)]
noncomputable def o2 := ob Tryz.f206 [.r,.r,.r,.r,.r,.r,.r,.r,.r,.r,.l]
def B2 (P : PT) (x0 : Value) (x1 x13 : Int) (H : AHeap) : Prop :=
  idxK x0 x1 1 (fun b1 o2 => ldI .u64 H b1 o2 (fun v3 => idxK x0 x13 1 (fun b4 o5 => ldI .u64 H b4 o5 (fun v6 => idxK x0 x13 1 (fun b7 o8 => stK H b7 o8 [(Value.int .u64 v3)] (fun H9 => idxK x0 x1 1 (fun b10 o11 => stK H9 b10 o11 [(Value.int .u64 v6)] (fun H12 => B1 P x13 H12))))))))
theorem q2 (P : PT) : QD Tryz.prog T0 178 o2 [(0, false), (1, false), (2, false), (3, false), (4, false), (5, false), (6, false), (7, false), (8, false), (9, false), (10, false), (11, false), (12, false), (13, false), (14, false), (15, false)] (En 178 k0 (B1 P)) k1 (B2 P) := fun _ _ _ _ _  => by kernel_rfl
abbrev k2 : Sk := [(0,.v),(1,.i .i64),(4,.v),(12,.i .i64),(13,.i .i64)]
noncomputable def o4 := ob Tryz.f206 [.r,.r,.r,.r,.r,.r,.r,.r,.r,.l,.l,.l,.l,.r,.r,.r,.r,.r]
def B4 (P : PT) (N3 : NTy k2 Pr) (x0 : Value) (x1 : Int) (x4 : Value) (x12 x13 : Int) (H : AHeap) : Prop :=
  N3 x0 x1 x4 x12 (IntKind.i64.wrap (x13 - 1)) H
theorem q4 (P : PT) (N3 : NTy k2 Pr) : QB Tryz.prog T0 178 o4 (En 178 k2 N3) k2 (B4 P N3) := fun _ _ _ _ _ _ _  => by kernel_rfl
noncomputable def o5 := ob Tryz.f206 [.r,.r,.r,.r,.r,.r,.r,.r,.r,.l,.l,.l,.l,.r,.r,.r,.r,.l]
def B5 (P : PT) (N3 : NTy k2 Pr) (x0 : Value) (x1 : Int) (x4 : Value) (x12 x13 : Int) (H : AHeap) : Prop :=
  B4 P N3 x0 x1 x4 (IntKind.i64.wrap (x12 + 1)) x13 H
theorem q5 (P : PT) (N3 : NTy k2 Pr) : QB Tryz.prog T0 178 o5 (En 178 k2 (B4 P N3)) k2 (B5 P N3) := fun _ _ _ _ _ _ _  => by kernel_rfl
noncomputable def o6 := ob Tryz.f206 [.r,.r,.r,.r,.r,.r,.r,.r,.r,.l,.l,.l,.l,.r,.r,.r,.l]
def B6 (P : PT) (N3 : NTy k2 Pr) (x0 : Value) (x1 : Int) (x4 : Value) (x12 x13 : Int) (H : AHeap) : Prop :=
  idxK x0 x13 1 (fun b1 o2 => ldI .u64 H b1 o2 (fun v3 => idxK x0 x12 1 (fun b4 o5 => ldI .u64 H b4 o5 (fun v6 => idxK x0 x12 1 (fun b7 o8 => stK H b7 o8 [(Value.int .u64 v3)] (fun H9 => idxK x0 x13 1 (fun b10 o11 => stK H9 b10 o11 [(Value.int .u64 v6)] (fun H12 => B5 P N3 x0 x1 x4 x12 x13 H12))))))))
theorem q6 (P : PT) (N3 : NTy k2 Pr) : QD Tryz.prog T0 178 o6 [(0, false), (1, false), (2, false), (3, false), (4, false), (5, false), (6, false), (7, false), (8, false), (9, false), (10, false), (11, false), (12, false), (13, false), (14, false), (15, false)] (En 178 k2 (B5 P N3)) k2 (B6 P N3) := fun _ _ _ _ _ _ _  => by kernel_rfl
noncomputable def o7 := ob Tryz.f206 [.r,.r,.r,.r,.r,.r,.r,.r,.r,.l,.l,.l,.l,.r,.r,.l,.l]
def B7 (P : PT) (N3 : NTy k2 Pr) (x0 : Value) (x1 : Int) (x4 : Value) (x12 x13 : Int) (H : AHeap) : Prop :=
  pif (decide ((x12 : Int) > x13)) (B2 P x0 x1 x13 H) (B6 P N3 x0 x1 x4 x12 x13 H)
theorem q7 (P : PT) (N3 : NTy k2 Pr) : QB Tryz.prog T0 178 o7 (cnd 144 (En 178 k1 (B2 P)) (En 178 k2 (B6 P N3))) k2 (B7 P N3) := fun _ _ _ _ _ _ _  => by kernel_rfl
noncomputable def o9 := ob Tryz.f206 [.r,.r,.r,.r,.r,.r,.r,.r,.r,.l,.l,.l,.l,.r,.l,.l,.l,.r,.l]
def B9 (P : PT) (N3 : NTy k2 Pr) (N8 : NTy k2 Pr) (x0 : Value) (x1 : Int) (x4 : Value) (x12 x13 : Int) (H : AHeap) : Prop :=
  N8 x0 x1 x4 x12 (IntKind.i64.wrap (x13 - 1)) H
theorem q9 (P : PT) (N3 : NTy k2 Pr) (N8 : NTy k2 Pr) : QB Tryz.prog T0 178 o9 (En 178 k2 N8) k2 (B9 P N3 N8) := fun _ _ _ _ _ _ _  => by kernel_rfl
noncomputable def o10 := ob Tryz.f206 [.r,.r,.r,.r,.r,.r,.r,.r,.r,.l,.l,.l,.l,.r,.l,.l,.l,.l,.l]
def B10 (P : PT) (N3 : NTy k2 Pr) (N8 : NTy k2 Pr) (x0 : Value) (x1 : Int) (x4 : Value) (x12 x13 : Int) (H : AHeap) : Prop :=
  pif (decide ((x12 : Int) ≤ x13)) (idxK x0 x13 1 (fun b1 o2 => ldI .u64 H b1 o2 (fun v3 => idxK x0 x1 1 (fun b4 o5 => ldI .u64 H b4 o5 (fun v6 => callV Tryz.prog T0 x4 [(Value.int .u64 v3), (Value.int .u64 v6)] H (fun v7 H8 => asI .i64 v7 (fun v9 => pif (!(decide ((v9 : Int) < 0))) (B9 P N3 N8 x0 x1 x4 x12 x13 H8) (B7 P N3 x0 x1 x4 x12 x13 H8)))))))) (B7 P N3 x0 x1 x4 x12 x13 H)
theorem q10 (P : PT) (N3 : NTy k2 Pr) (N8 : NTy k2 Pr) : QD Tryz.prog T0 178 o10 [(0, false), (1, false), (2, false), (3, false), (4, false), (5, false), (6, false), (7, false), (8, false), (9, false), (10, false), (11, false), (12, false), (13, false), (14, false), (15, false), (16, false)] (cnd 139 (En 178 k2 (B9 P N3 N8)) (En 178 k2 (B7 P N3))) k2 (B10 P N3 N8) := fun _ _ _ _ _ _ _  => by kernel_rfl
def L8 (P : PT) (N3 : NTy k2 Pr) (x0 : Value) (x1 : Int) (x4 : Value) (x12 x13 : Int) (H : AHeap) : Prop :=
  ∃ (I : NTy k2 Pr) (μ : NTy k2 (AHeap → Nat)), I x0 x1 x4 x12 x13 H ∧ ∀ y0 y1 y4 y12 y13 G, I y0 y1 y4 y12 y13 G → B10 P N3 (fun z0 z1 z4 z12 z13 G' => I z0 z1 z4 z12 z13 G' ∧ μ z0 z1 z4 z12 z13 G' < μ y0 y1 y4 y12 y13 G) y0 y1 y4 y12 y13 G
theorem l8 (P : PT) (N3 : NTy k2 Pr) : LQ k2 (L8 P N3) (B10 P N3) := fun ⟨_,_,_,_,_,_⟩ _ ⟨I, μ, h0, hI⟩ => ⟨apT _ I, apT _ μ, h0, fun ⟨_,_,_,_,_,_⟩ _ h => hI _ _ _ _ _ _  h⟩
noncomputable def o12 := ob Tryz.f206 [.r,.r,.r,.r,.r,.r,.r,.r,.r,.l,.l,.l,.l,.l,.l,.l,.r,.l]
def B12 (P : PT) (N3 : NTy k2 Pr) (N11 : NTy k2 Pr) (x0 : Value) (x1 : Int) (x4 : Value) (x12 x13 : Int) (H : AHeap) : Prop :=
  N11 x0 x1 x4 (IntKind.i64.wrap (x12 + 1)) x13 H
theorem q12 (P : PT) (N3 : NTy k2 Pr) (N11 : NTy k2 Pr) : QB Tryz.prog T0 178 o12 (En 178 k2 N11) k2 (B12 P N3 N11) := fun _ _ _ _ _ _ _  => by kernel_rfl
noncomputable def o13 := ob Tryz.f206 [.r,.r,.r,.r,.r,.r,.r,.r,.r,.l,.l,.l,.l,.l,.l,.l,.l,.l]
def B13 (P : PT) (N3 : NTy k2 Pr) (N11 : NTy k2 Pr) (x0 : Value) (x1 : Int) (x4 : Value) (x12 x13 : Int) (H : AHeap) : Prop :=
  pif (decide ((x12 : Int) ≤ x13)) (idxK x0 x12 1 (fun b1 o2 => ldI .u64 H b1 o2 (fun v3 => idxK x0 x1 1 (fun b4 o5 => ldI .u64 H b4 o5 (fun v6 => callV Tryz.prog T0 x4 [(Value.int .u64 v3), (Value.int .u64 v6)] H (fun v7 H8 => asI .i64 v7 (fun v9 => pif (decide ((v9 : Int) < 0)) (B12 P N3 N11 x0 x1 x4 x12 x13 H8) (L8 P N3 x0 x1 x4 x12 x13 H8)))))))) (L8 P N3 x0 x1 x4 x12 x13 H)
theorem q13 (P : PT) (N3 : NTy k2 Pr) (N11 : NTy k2 Pr) : QD Tryz.prog T0 178 o13 [(0, false), (1, false), (2, false), (3, false), (4, false), (5, false), (6, false), (7, false), (8, false), (9, false), (10, false), (11, false), (12, false), (13, false), (14, false), (15, false)] (cnd 120 (En 178 k2 (B12 P N3 N11)) (En 178 k2 (L8 P N3))) k2 (B13 P N3 N11) := fun _ _ _ _ _ _ _  => by kernel_rfl
def L11 (P : PT) (N3 : NTy k2 Pr) (x0 : Value) (x1 : Int) (x4 : Value) (x12 x13 : Int) (H : AHeap) : Prop :=
  ∃ (I : NTy k2 Pr) (μ : NTy k2 (AHeap → Nat)), I x0 x1 x4 x12 x13 H ∧ ∀ y0 y1 y4 y12 y13 G, I y0 y1 y4 y12 y13 G → B13 P N3 (fun z0 z1 z4 z12 z13 G' => I z0 z1 z4 z12 z13 G' ∧ μ z0 z1 z4 z12 z13 G' < μ y0 y1 y4 y12 y13 G) y0 y1 y4 y12 y13 G
theorem l11 (P : PT) (N3 : NTy k2 Pr) : LQ k2 (L11 P N3) (B13 P N3) := fun ⟨_,_,_,_,_,_⟩ _ ⟨I, μ, h0, hI⟩ => ⟨apT _ I, apT _ μ, h0, fun ⟨_,_,_,_,_,_⟩ _ h => hI _ _ _ _ _ _  h⟩
def L3 (P : PT) (x0 : Value) (x1 : Int) (x4 : Value) (x12 x13 : Int) (H : AHeap) : Prop :=
  ∃ (I : NTy k2 Pr) (μ : NTy k2 (AHeap → Nat)), I x0 x1 x4 x12 x13 H ∧ ∀ y0 y1 y4 y12 y13 G, I y0 y1 y4 y12 y13 G → L11 P (fun z0 z1 z4 z12 z13 G' => I z0 z1 z4 z12 z13 G' ∧ μ z0 z1 z4 z12 z13 G' < μ y0 y1 y4 y12 y13 G) y0 y1 y4 y12 y13 G
theorem l3 (P : PT) : LQ k2 (L3 P) (L11 P) := fun ⟨_,_,_,_,_,_⟩ _ ⟨I, μ, h0, hI⟩ => ⟨apT _ I, apT _ μ, h0, fun ⟨_,_,_,_,_,_⟩ _ h => hI _ _ _ _ _ _  h⟩
noncomputable def o14 := ob Tryz.f206 [.r,.r,.r,.r,.r,.r,.r,.r,.l]
def B14 (P : PT) (x0 : Value) (x1 : Int) (x4 : Value) (x12 x13 : Int) (H : AHeap) : Prop :=
  L3 P x0 x1 x4 x12 (IntKind.i64.wrap (x13 - 1)) H
theorem q14 (P : PT) : QB Tryz.prog T0 178 o14 (En 178 k2 (L3 P)) k2 (B14 P) := fun _ _ _ _ _ _ _  => by kernel_rfl
noncomputable def o15 := ob Tryz.f206 [.r,.r,.r,.r,.r,.r,.r,.l]
def B15 (P : PT) (x0 : Value) (x1 : Int) (x4 : Value) (x12 x13 : Int) (H : AHeap) : Prop :=
  B14 P x0 x1 x4 (IntKind.i64.wrap (x12 + 1)) x13 H
theorem q15 (P : PT) : QB Tryz.prog T0 178 o15 (En 178 k2 (B14 P)) k2 (B15 P) := fun _ _ _ _ _ _ _  => by kernel_rfl
noncomputable def o16 := ob Tryz.f206 [.r,.r,.r,.r,.r,.r,.l]
def B16 (P : PT) (x0 : Value) (x1 : Int) (x4 : Value) (x12 x13 : Int) (H : AHeap) : Prop :=
  idxK x0 x13 1 (fun b1 o2 => ldI .u64 H b1 o2 (fun v3 => idxK x0 x12 1 (fun b4 o5 => ldI .u64 H b4 o5 (fun v6 => idxK x0 x12 1 (fun b7 o8 => stK H b7 o8 [(Value.int .u64 v3)] (fun H9 => idxK x0 x13 1 (fun b10 o11 => stK H9 b10 o11 [(Value.int .u64 v6)] (fun H12 => B15 P x0 x1 x4 x12 x13 H12))))))))
theorem q16 (P : PT) : QD Tryz.prog T0 178 o16 [(0, false), (1, false), (2, false), (3, false), (4, false), (5, false), (6, false), (7, false), (8, false), (9, false), (10, false), (11, false), (12, false), (13, false), (14, false), (15, false)] (En 178 k2 (B15 P)) k2 (B16 P) := fun _ _ _ _ _ _ _  => by kernel_rfl
noncomputable def o17 := ob Tryz.f206 [.r,.r,.r,.r,.r,.l,.r,.l,.r,.l]
def B17 (P : PT) (x13 : Int) (H : AHeap) : Prop :=
  P (Value.tuple ⟨[(Value.int .i64 x13), (Value.bool true)]⟩) H
theorem q17 (P : PT) : QB Tryz.prog T0 178 o17 (ret P) k0 (B17 P) := fun _ _ _  => by kernel_rfl
noncomputable def o18 := ob Tryz.f206 [.r,.r,.r,.r,.r,.l,.r,.l,.l]
def B18 (P : PT) (x0 : Value) (x1 x13 : Int) (H : AHeap) : Prop :=
  idxK x0 x1 1 (fun b1 o2 => ldI .u64 H b1 o2 (fun v3 => idxK x0 x13 1 (fun b4 o5 => ldI .u64 H b4 o5 (fun v6 => idxK x0 x13 1 (fun b7 o8 => stK H b7 o8 [(Value.int .u64 v3)] (fun H9 => idxK x0 x1 1 (fun b10 o11 => stK H9 b10 o11 [(Value.int .u64 v6)] (fun H12 => B17 P x13 H12))))))))
theorem q18 (P : PT) : QD Tryz.prog T0 178 o18 [(0, false), (1, false), (2, false), (3, false), (4, false), (5, false), (6, false), (7, false), (8, false), (9, false), (10, false), (11, false), (12, false), (13, false), (14, false), (15, false)] (En 178 k0 (B17 P)) k1 (B18 P) := fun _ _ _ _ _  => by kernel_rfl
noncomputable def o19 := ob Tryz.f206 [.r,.r,.r,.r,.r,.l,.l]
def B19 (P : PT) (x0 : Value) (x1 : Int) (x4 : Value) (x12 x13 : Int) (H : AHeap) : Prop :=
  pif (decide ((x12 : Int) > x13)) (B18 P x0 x1 x13 H) (B16 P x0 x1 x4 x12 x13 H)
theorem q19 (P : PT) : QB Tryz.prog T0 178 o19 (cnd 71 (En 178 k1 (B18 P)) (En 178 k2 (B16 P))) k2 (B19 P) := fun _ _ _ _ _ _ _  => by kernel_rfl
noncomputable def o21 := ob Tryz.f206 [.r,.r,.r,.r,.l,.l,.l,.r,.l]
def B21 (P : PT) (N20 : NTy k2 Pr) (x0 : Value) (x1 : Int) (x4 : Value) (x12 x13 : Int) (H : AHeap) : Prop :=
  N20 x0 x1 x4 x12 (IntKind.i64.wrap (x13 - 1)) H
theorem q21 (P : PT) (N20 : NTy k2 Pr) : QB Tryz.prog T0 178 o21 (En 178 k2 N20) k2 (B21 P N20) := fun _ _ _ _ _ _ _  => by kernel_rfl
noncomputable def o22 := ob Tryz.f206 [.r,.r,.r,.r,.l,.l,.l,.l,.l]
def B22 (P : PT) (N20 : NTy k2 Pr) (x0 : Value) (x1 : Int) (x4 : Value) (x12 x13 : Int) (H : AHeap) : Prop :=
  pif (decide ((x12 : Int) ≤ x13)) (idxK x0 x13 1 (fun b1 o2 => ldI .u64 H b1 o2 (fun v3 => idxK x0 x1 1 (fun b4 o5 => ldI .u64 H b4 o5 (fun v6 => callV Tryz.prog T0 x4 [(Value.int .u64 v3), (Value.int .u64 v6)] H (fun v7 H8 => asI .i64 v7 (fun v9 => pif (!(decide ((v9 : Int) < 0))) (B21 P N20 x0 x1 x4 x12 x13 H8) (B19 P x0 x1 x4 x12 x13 H8)))))))) (B19 P x0 x1 x4 x12 x13 H)
theorem q22 (P : PT) (N20 : NTy k2 Pr) : QD Tryz.prog T0 178 o22 [(0, false), (1, false), (2, false), (3, false), (4, false), (5, false), (6, false), (7, false), (8, false), (9, false), (10, false), (11, false), (12, false), (13, false), (14, false), (15, false), (16, false)] (cnd 66 (En 178 k2 (B21 P N20)) (En 178 k2 (B19 P))) k2 (B22 P N20) := fun _ _ _ _ _ _ _  => by kernel_rfl
def L20 (P : PT) (x0 : Value) (x1 : Int) (x4 : Value) (x12 x13 : Int) (H : AHeap) : Prop :=
  ∃ (I : NTy k2 Pr) (μ : NTy k2 (AHeap → Nat)), I x0 x1 x4 x12 x13 H ∧ ∀ y0 y1 y4 y12 y13 G, I y0 y1 y4 y12 y13 G → B22 P (fun z0 z1 z4 z12 z13 G' => I z0 z1 z4 z12 z13 G' ∧ μ z0 z1 z4 z12 z13 G' < μ y0 y1 y4 y12 y13 G) y0 y1 y4 y12 y13 G
theorem l20 (P : PT) : LQ k2 (L20 P) (B22 P) := fun ⟨_,_,_,_,_,_⟩ _ ⟨I, μ, h0, hI⟩ => ⟨apT _ I, apT _ μ, h0, fun ⟨_,_,_,_,_,_⟩ _ h => hI _ _ _ _ _ _  h⟩
noncomputable def o24 := ob Tryz.f206 [.r,.r,.r,.l,.l,.l,.r,.l]
def B24 (P : PT) (N23 : NTy k2 Pr) (x0 : Value) (x1 : Int) (x4 : Value) (x12 x13 : Int) (H : AHeap) : Prop :=
  N23 x0 x1 x4 (IntKind.i64.wrap (x12 + 1)) x13 H
theorem q24 (P : PT) (N23 : NTy k2 Pr) : QB Tryz.prog T0 178 o24 (En 178 k2 N23) k2 (B24 P N23) := fun _ _ _ _ _ _ _  => by kernel_rfl
noncomputable def o25 := ob Tryz.f206 [.r,.r,.r,.l,.l,.l,.l,.l]
def B25 (P : PT) (N23 : NTy k2 Pr) (x0 : Value) (x1 : Int) (x4 : Value) (x12 x13 : Int) (H : AHeap) : Prop :=
  pif (decide ((x12 : Int) ≤ x13)) (idxK x0 x12 1 (fun b1 o2 => ldI .u64 H b1 o2 (fun v3 => idxK x0 x1 1 (fun b4 o5 => ldI .u64 H b4 o5 (fun v6 => callV Tryz.prog T0 x4 [(Value.int .u64 v3), (Value.int .u64 v6)] H (fun v7 H8 => asI .i64 v7 (fun v9 => pif (decide ((v9 : Int) < 0)) (B24 P N23 x0 x1 x4 x12 x13 H8) (L20 P x0 x1 x4 x12 x13 H8)))))))) (L20 P x0 x1 x4 x12 x13 H)
theorem q25 (P : PT) (N23 : NTy k2 Pr) : QD Tryz.prog T0 178 o25 [(0, false), (1, false), (2, false), (3, false), (4, false), (5, false), (6, false), (7, false), (8, false), (9, false), (10, false), (11, false), (12, false), (13, false), (14, false), (15, false)] (cnd 47 (En 178 k2 (B24 P N23)) (En 178 k2 (L20 P))) k2 (B25 P N23) := fun _ _ _ _ _ _ _  => by kernel_rfl
def L23 (P : PT) (x0 : Value) (x1 : Int) (x4 : Value) (x12 x13 : Int) (H : AHeap) : Prop :=
  ∃ (I : NTy k2 Pr) (μ : NTy k2 (AHeap → Nat)), I x0 x1 x4 x12 x13 H ∧ ∀ y0 y1 y4 y12 y13 G, I y0 y1 y4 y12 y13 G → B25 P (fun z0 z1 z4 z12 z13 G' => I z0 z1 z4 z12 z13 G' ∧ μ z0 z1 z4 z12 z13 G' < μ y0 y1 y4 y12 y13 G) y0 y1 y4 y12 y13 G
theorem l23 (P : PT) : LQ k2 (L23 P) (B25 P) := fun ⟨_,_,_,_,_,_⟩ _ ⟨I, μ, h0, hI⟩ => ⟨apT _ I, apT _ μ, h0, fun ⟨_,_,_,_,_,_⟩ _ h => hI _ _ _ _ _ _  h⟩
abbrev k3 : Sk := [(0,.v),(1,.i .i64),(2,.i .i64),(4,.v)]
noncomputable def o26 := ob Tryz.f206 [.r,.r,.l]
def B26 (P : PT) (x0 : Value) (x1 x2 : Int) (x4 : Value) (H : AHeap) : Prop :=
  L23 P x0 x1 x4 (IntKind.i64.wrap (x1 + 1)) (IntKind.i64.wrap (x2 - 1)) H
theorem q26 (P : PT) : QB Tryz.prog T0 178 o26 (En 178 k2 (L23 P)) k3 (B26 P) := fun _ _ _ _ _ _  => by kernel_rfl
abbrev k4 : Sk := [(0,.v),(1,.i .i64),(2,.i .i64),(3,.i .i64),(4,.v)]
noncomputable def o27 := ob Tryz.f206 [.r,.l]
def B27 (P : PT) (x0 : Value) (x1 x2 x3 : Int) (x4 : Value) (H : AHeap) : Prop :=
  idxK x0 x3 1 (fun b1 o2 => ldI .u64 H b1 o2 (fun v3 => idxK x0 x1 1 (fun b4 o5 => ldI .u64 H b4 o5 (fun v6 => idxK x0 x1 1 (fun b7 o8 => stK H b7 o8 [(Value.int .u64 v3)] (fun H9 => idxK x0 x3 1 (fun b10 o11 => stK H9 b10 o11 [(Value.int .u64 v6)] (fun H12 => B26 P x0 x1 x2 x4 H12))))))))
theorem q27 (P : PT) : QD Tryz.prog T0 178 o27 [(0, false), (1, false), (2, false), (3, false), (4, false), (5, false), (6, false), (7, false), (8, false), (9, false), (10, false), (11, false), (12, false), (13, false), (14, false), (15, false)] (En 178 k3 (B26 P)) k4 (B27 P) := fun _ _ _ _ _ _ _  => by kernel_rfl
noncomputable def o28 := ob Tryz.f206 [.l]
def B28 (P : PT) (x0 : Value) (x1 x2 x3 : Int) (x4 : Value) (H : AHeap) : Prop :=
  B27 P x0 x1 x2 x3 x4 H
theorem q28 (P : PT) : QB Tryz.prog T0 178 o28 (En 178 k4 (B27 P)) k4 (B28 P) := fun _ _ _ _ _ _ _  => by kernel_rfl
noncomputable def code : Code := (.seq (.region 0 ⟨o28⟩ false) (.seq (.region 1 ⟨o27⟩ true) (.seq (.region 2 ⟨o26⟩ false) (.seq (.block 0 (.loop (.seq (.seq (.region 3 ⟨o25⟩ true) (.cond (.tmp 47) .skip (.exit 0))) (.block 1 (.region 4 ⟨o24⟩ false))))) (.seq (.block 2 (.loop (.seq (.seq (.region 5 ⟨o22⟩ true) (.cond (.tmp 66) .skip (.exit 2))) (.block 3 (.region 6 ⟨o21⟩ false))))) (.seq (.seq (.region 7 ⟨o19⟩ false) (.cond (.tmp 71) (.seq (.region 8 ⟨o18⟩ true) (.seq (.region 9 ⟨o17⟩ false) .ret)) .skip)) (.seq (.region 10 ⟨o16⟩ true) (.seq (.region 11 ⟨o15⟩ false) (.seq (.region 12 ⟨o14⟩ false) (.seq (.block 4 (.loop (.block 5 (.seq (.block 6 (.loop (.seq (.seq (.region 13 ⟨o13⟩ true) (.cond (.tmp 120) .skip (.exit 6))) (.block 7 (.region 14 ⟨o12⟩ false))))) (.seq (.block 8 (.loop (.seq (.seq (.region 15 ⟨o10⟩ true) (.cond (.tmp 139) .skip (.exit 8))) (.block 9 (.region 16 ⟨o9⟩ false))))) (.seq (.seq (.region 17 ⟨o7⟩ false) (.cond (.tmp 144) (.exit 4) .skip)) (.seq (.region 18 ⟨o6⟩ true) (.seq (.region 19 ⟨o5⟩ false) (.region 20 ⟨o4⟩ false))))))))) (.seq (.region 21 ⟨o2⟩ true) (.seq (.region 22 ⟨o1⟩ false) .ret))))))))))))
theorem body : Tryz.f206.body = some code := by kernel_rfl
theorem main (P : PT) : ∀ env H, (En 178 k4 (B28 P)) env H → AW Tryz.prog T0 code env H (mkQ (ret P) (fun _ _ _ => False) (ret P)) :=
  (r_seq (rB T0_ok (q28 P)) (r_seq (rD T0_ok mixed [(0, false), (1, false), (2, false), (3, false), (4, false), (5, false), (6, false), (7, false), (8, false), (9, false), (10, false), (11, false), (12, false), (13, false), (14, false), (15, false)] (by kernel_rfl) (q27 P)) (r_seq (rB T0_ok (q26 P)) (r_seq (r_block (rL (l23 P) (fun N23 => (r_seq (r_seq (rD T0_ok mixed [(0, false), (1, false), (2, false), (3, false), (4, false), (5, false), (6, false), (7, false), (8, false), (9, false), (10, false), (11, false), (12, false), (13, false), (14, false), (15, false)] (by kernel_rfl) (q25 P N23)) (r_cond rfl r_skip (r_exit (fun _ _ h => h)))) (r_block (rB T0_ok (q24 P N23))))))) (r_seq (r_block (rL (l20 P) (fun N20 => (r_seq (r_seq (rD T0_ok mixed [(0, false), (1, false), (2, false), (3, false), (4, false), (5, false), (6, false), (7, false), (8, false), (9, false), (10, false), (11, false), (12, false), (13, false), (14, false), (15, false), (16, false)] (by kernel_rfl) (q22 P N20)) (r_cond rfl r_skip (r_exit (fun _ _ h => h)))) (r_block (rB T0_ok (q21 P N20))))))) (r_seq (r_seq (rB T0_ok (q19 P)) (r_cond rfl (r_seq (rD T0_ok mixed [(0, false), (1, false), (2, false), (3, false), (4, false), (5, false), (6, false), (7, false), (8, false), (9, false), (10, false), (11, false), (12, false), (13, false), (14, false), (15, false)] (by kernel_rfl) (q18 P)) (r_seq (rB T0_ok (q17 P)) r_ret)) r_skip)) (r_seq (rD T0_ok mixed [(0, false), (1, false), (2, false), (3, false), (4, false), (5, false), (6, false), (7, false), (8, false), (9, false), (10, false), (11, false), (12, false), (13, false), (14, false), (15, false)] (by kernel_rfl) (q16 P)) (r_seq (rB T0_ok (q15 P)) (r_seq (rB T0_ok (q14 P)) (r_seq (r_block (rL (l3 P) (fun N3 => (r_block (r_seq (r_block (rL (l11 P N3) (fun N11 => (r_seq (r_seq (rD T0_ok mixed [(0, false), (1, false), (2, false), (3, false), (4, false), (5, false), (6, false), (7, false), (8, false), (9, false), (10, false), (11, false), (12, false), (13, false), (14, false), (15, false)] (by kernel_rfl) (q13 P N3 N11)) (r_cond rfl r_skip (r_exit (fun _ _ h => h)))) (r_block (rB T0_ok (q12 P N3 N11))))))) (r_seq (r_block (rL (l8 P N3) (fun N8 => (r_seq (r_seq (rD T0_ok mixed [(0, false), (1, false), (2, false), (3, false), (4, false), (5, false), (6, false), (7, false), (8, false), (9, false), (10, false), (11, false), (12, false), (13, false), (14, false), (15, false), (16, false)] (by kernel_rfl) (q10 P N3 N8)) (r_cond rfl r_skip (r_exit (fun _ _ h => h)))) (r_block (rB T0_ok (q9 P N3 N8))))))) (r_seq (r_seq (rB T0_ok (q7 P N3)) (r_cond rfl (r_exit (fun _ _ h => h)) r_skip)) (r_seq (rD T0_ok mixed [(0, false), (1, false), (2, false), (3, false), (4, false), (5, false), (6, false), (7, false), (8, false), (9, false), (10, false), (11, false), (12, false), (13, false), (14, false), (15, false)] (by kernel_rfl) (q6 P N3)) (r_seq (rB T0_ok (q5 P N3)) (rB T0_ok (q4 P N3))))))))))) (r_seq (rD T0_ok mixed [(0, false), (1, false), (2, false), (3, false), (4, false), (5, false), (6, false), (7, false), (8, false), (9, false), (10, false), (11, false), (12, false), (13, false), (14, false), (15, false)] (by kernel_rfl) (q2 P)) (r_seq (rB T0_ok (q1 P)) r_ret))))))))))))
theorem ac (P : PT) (x0 : Value) (x1 x2 x3 : Int) (x4 : Value) (H : AHeap) (h : B28 P x0 x1 x2 x3 x4 H) : AC Tryz.prog T0 206 [x0, (Value.int .i64 x1), (Value.int .i64 x2), (Value.int .i64 x3), x4] H P :=
  r_fn T0_ok (c := code) (n := 178) Tryz.func206 body (by kernel_rfl) (main P) (En_mk (x0, x1, x2, x3, x4, ()) (by kernel_rfl) ⟨by kernel_rfl, by kernel_rfl, by kernel_rfl, by kernel_rfl, by kernel_rfl, trivial⟩ h)

end F206
-- math/bits.Len64
namespace F208
noncomputable def ret (P : PT) : EP := retE T0 25 Tryz.f208 P
abbrev k0 : Sk := [(0,.i .u64),(2,.i .i64)]
noncomputable def o1 := ob Tryz.f208 [.r,.r,.r,.r,.l]
def B1 (P : PT) (x0 x2 : Int) (H : AHeap) : Prop :=
  bndK (IntKind.u8.wrap x0) (ByteArray.size (ByteArray.mk (List.toArray (List.append (List.append [0, 1, 2, 2, 3, 3, 3, 3, 4, 4, 4, 4, 4, 4, 4, 4, 5, 5, 5, 5, 5, 5, 5, 5, 5, 5, 5, 5, 5, 5, 5, 5, 6, 6, 6, 6, 6, 6, 6, 6, 6, 6, 6, 6, 6, 6, 6, 6, 6, 6, 6, 6, 6, 6, 6, 6, 6, 6, 6, 6, 6, 6, 6, 6] [7, 7, 7, 7, 7, 7, 7, 7, 7, 7, 7, 7, 7, 7, 7, 7, 7, 7, 7, 7, 7, 7, 7, 7, 7, 7, 7, 7, 7, 7, 7, 7, 7, 7, 7, 7, 7, 7, 7, 7, 7, 7, 7, 7, 7, 7, 7, 7, 7, 7, 7, 7, 7, 7, 7, 7, 7, 7, 7, 7, 7, 7, 7, 7]) (List.append [8, 8, 8, 8, 8, 8, 8, 8, 8, 8, 8, 8, 8, 8, 8, 8, 8, 8, 8, 8, 8, 8, 8, 8, 8, 8, 8, 8, 8, 8, 8, 8, 8, 8, 8, 8, 8, 8, 8, 8, 8, 8, 8, 8, 8, 8, 8, 8, 8, 8, 8, 8, 8, 8, 8, 8, 8, 8, 8, 8, 8, 8, 8, 8] [8, 8, 8, 8, 8, 8, 8, 8, 8, 8, 8, 8, 8, 8, 8, 8, 8, 8, 8, 8, 8, 8, 8, 8, 8, 8, 8, 8, 8, 8, 8, 8, 8, 8, 8, 8, 8, 8, 8, 8, 8, 8, 8, 8, 8, 8, 8, 8, 8, 8, 8, 8, 8, 8, 8, 8, 8, 8, 8, 8, 8, 8, 8, 8]))))) (P (Value.int .i64 (IntKind.i64.wrap (x2 + (IntKind.i64.wrap (((ByteArray.mk (List.toArray (List.append (List.append [0, 1, 2, 2, 3, 3, 3, 3, 4, 4, 4, 4, 4, 4, 4, 4, 5, 5, 5, 5, 5, 5, 5, 5, 5, 5, 5, 5, 5, 5, 5, 5, 6, 6, 6, 6, 6, 6, 6, 6, 6, 6, 6, 6, 6, 6, 6, 6, 6, 6, 6, 6, 6, 6, 6, 6, 6, 6, 6, 6, 6, 6, 6, 6] [7, 7, 7, 7, 7, 7, 7, 7, 7, 7, 7, 7, 7, 7, 7, 7, 7, 7, 7, 7, 7, 7, 7, 7, 7, 7, 7, 7, 7, 7, 7, 7, 7, 7, 7, 7, 7, 7, 7, 7, 7, 7, 7, 7, 7, 7, 7, 7, 7, 7, 7, 7, 7, 7, 7, 7, 7, 7, 7, 7, 7, 7, 7, 7]) (List.append [8, 8, 8, 8, 8, 8, 8, 8, 8, 8, 8, 8, 8, 8, 8, 8, 8, 8, 8, 8, 8, 8, 8, 8, 8, 8, 8, 8, 8, 8, 8, 8, 8, 8, 8, 8, 8, 8, 8, 8, 8, 8, 8, 8, 8, 8, 8, 8, 8, 8, 8, 8, 8, 8, 8, 8, 8, 8, 8, 8, 8, 8, 8, 8] [8, 8, 8, 8, 8, 8, 8, 8, 8, 8, 8, 8, 8, 8, 8, 8, 8, 8, 8, 8, 8, 8, 8, 8, 8, 8, 8, 8, 8, 8, 8, 8, 8, 8, 8, 8, 8, 8, 8, 8, 8, 8, 8, 8, 8, 8, 8, 8, 8, 8, 8, 8, 8, 8, 8, 8, 8, 8, 8, 8, 8, 8, 8, 8])))).data.toList.getD (Int.toNat (IntKind.u8.wrap x0)) 0).toNat : Int))))) H)
theorem q1 (P : PT) : QB Tryz.prog T0 25 o1 (ret P) k0 (B1 P) := fun _ _ _ _  => by kernel_rfl
noncomputable def o2 := ob Tryz.f208 [.r,.r,.r,.l,.r,.l,.r]
def B2 (P : PT) (x0 x2 : Int) (H : AHeap) : Prop :=
  B1 P x0 (IntKind.i64.wrap (x2 + 8)) H
theorem q2 (P : PT) : QB Tryz.prog T0 25 o2 (En 25 k0 (B1 P)) k0 (B2 P) := fun _ _ _ _  => by kernel_rfl
noncomputable def o3 := ob Tryz.f208 [.r,.r,.r,.l,.r,.l,.l]
def B3 (P : PT) (x0 x2 : Int) (H : AHeap) : Prop :=
  ((0 : Int) ≤ 8) ∧ (B2 P (Int.fdiv x0 (2 ^ (min (Int.toNat 8) 64))) x2 H)
theorem q3 (P : PT) : QB Tryz.prog T0 25 o3 (En 25 k0 (B2 P)) k0 (B3 P) := fun _ _ _ _  => by kernel_rfl
noncomputable def o4 := ob Tryz.f208 [.r,.r,.r,.l,.l]
def B4 (P : PT) (x0 x2 : Int) (H : AHeap) : Prop :=
  pif (decide ((x0 : Int) ≥ 256)) (B3 P x0 x2 H) (B1 P x0 x2 H)
theorem q4 (P : PT) : QB Tryz.prog T0 25 o4 (cnd 14 (En 25 k0 (B3 P)) (En 25 k0 (B1 P))) k0 (B4 P) := fun _ _ _ _  => by kernel_rfl
noncomputable def o5 := ob Tryz.f208 [.r,.r,.l,.r,.l,.r]
def B5 (P : PT) (x0 x2 : Int) (H : AHeap) : Prop :=
  B4 P x0 (IntKind.i64.wrap (x2 + 16)) H
theorem q5 (P : PT) : QB Tryz.prog T0 25 o5 (En 25 k0 (B4 P)) k0 (B5 P) := fun _ _ _ _  => by kernel_rfl
noncomputable def o6 := ob Tryz.f208 [.r,.r,.l,.r,.l,.l]
def B6 (P : PT) (x0 x2 : Int) (H : AHeap) : Prop :=
  ((0 : Int) ≤ 16) ∧ (B5 P (Int.fdiv x0 (2 ^ (min (Int.toNat 16) 64))) x2 H)
theorem q6 (P : PT) : QB Tryz.prog T0 25 o6 (En 25 k0 (B5 P)) k0 (B6 P) := fun _ _ _ _  => by kernel_rfl
noncomputable def o7 := ob Tryz.f208 [.r,.r,.l,.l]
def B7 (P : PT) (x0 x2 : Int) (H : AHeap) : Prop :=
  pif (decide ((x0 : Int) ≥ 65536)) (B6 P x0 x2 H) (B4 P x0 x2 H)
theorem q7 (P : PT) : QB Tryz.prog T0 25 o7 (cnd 8 (En 25 k0 (B6 P)) (En 25 k0 (B4 P))) k0 (B7 P) := fun _ _ _ _  => by kernel_rfl
abbrev k1 : Sk := [(0,.i .u64)]
noncomputable def o8 := ob Tryz.f208 [.r,.l,.r,.l,.r]
def B8 (P : PT) (x0 : Int) (H : AHeap) : Prop :=
  B7 P x0 32 H
theorem q8 (P : PT) : QB Tryz.prog T0 25 o8 (En 25 k0 (B7 P)) k1 (B8 P) := fun _ _ _  => by kernel_rfl
noncomputable def o9 := ob Tryz.f208 [.r,.l,.r,.l,.l]
def B9 (P : PT) (x0 : Int) (H : AHeap) : Prop :=
  ((0 : Int) ≤ 32) ∧ (B8 P (Int.fdiv x0 (2 ^ (min (Int.toNat 32) 64))) H)
theorem q9 (P : PT) : QB Tryz.prog T0 25 o9 (En 25 k1 (B8 P)) k1 (B9 P) := fun _ _ _  => by kernel_rfl
noncomputable def o10 := ob Tryz.f208 [.r,.l,.l]
def B10 (P : PT) (x0 x2 : Int) (H : AHeap) : Prop :=
  pif (decide ((x0 : Int) ≥ 4294967296)) (B9 P x0 H) (B7 P x0 x2 H)
theorem q10 (P : PT) : QB Tryz.prog T0 25 o10 (cnd 4 (En 25 k1 (B9 P)) (En 25 k0 (B7 P))) k0 (B10 P) := fun _ _ _ _  => by kernel_rfl
noncomputable def o11 := ob Tryz.f208 [.l]
def B11 (P : PT) (x0 : Int) (H : AHeap) : Prop :=
  B10 P x0 0 H
theorem q11 (P : PT) : QB Tryz.prog T0 25 o11 (En 25 k0 (B10 P)) k1 (B11 P) := fun _ _ _  => by kernel_rfl
noncomputable def code : Code := (.seq (.region 0 ⟨o11⟩ false) (.seq (.seq (.region 1 ⟨o10⟩ false) (.cond (.tmp 4) (.seq (.region 2 ⟨o9⟩ false) (.region 3 ⟨o8⟩ false)) .skip)) (.seq (.seq (.region 4 ⟨o7⟩ false) (.cond (.tmp 8) (.seq (.region 5 ⟨o6⟩ false) (.region 6 ⟨o5⟩ false)) .skip)) (.seq (.seq (.region 7 ⟨o4⟩ false) (.cond (.tmp 14) (.seq (.region 8 ⟨o3⟩ false) (.region 9 ⟨o2⟩ false)) .skip)) (.seq (.region 10 ⟨o1⟩ false) .ret)))))
theorem body : Tryz.f208.body = some code := by kernel_rfl
theorem main (P : PT) : ∀ env H, (En 25 k1 (B11 P)) env H → AW Tryz.prog T0 code env H (mkQ (ret P) (fun _ _ _ => False) (ret P)) :=
  (r_seq (rB T0_ok (q11 P)) (r_seq (r_seq (rB T0_ok (q10 P)) (r_cond rfl (r_seq (rB T0_ok (q9 P)) (rB T0_ok (q8 P))) r_skip)) (r_seq (r_seq (rB T0_ok (q7 P)) (r_cond rfl (r_seq (rB T0_ok (q6 P)) (rB T0_ok (q5 P))) r_skip)) (r_seq (r_seq (rB T0_ok (q4 P)) (r_cond rfl (r_seq (rB T0_ok (q3 P)) (rB T0_ok (q2 P))) r_skip)) (r_seq (rB T0_ok (q1 P)) r_ret)))))
theorem ac (P : PT) (x0 : Int) (H : AHeap) (h : B11 P x0 H) : AC Tryz.prog T0 208 [(Value.int .u64 x0)] H P :=
  r_fn T0_ok (c := code) (n := 25) Tryz.func208 body (by kernel_rfl) (main P) (En_mk (x0, ()) (by kernel_rfl) ⟨by kernel_rfl, trivial⟩ h)

end F208
-- cmp.isNaN[int64]
namespace F209
noncomputable def ret (P : PT) : EP := retE T0 6 Tryz.f209 P
abbrev k0 : Sk := [(0,.i .i64)]
noncomputable def o1 := ob Tryz.f209 [.r,.l]
def B1 (P : PT) (x0 : Int) (H : AHeap) : Prop :=
  P (Value.bool ((x0 : Int) != x0)) H
theorem q1 (P : PT) : QB Tryz.prog T0 6 o1 (ret P) k0 (B1 P) := fun _ _ _  => by kernel_rfl
noncomputable def o2 := ob Tryz.f209 [.l]
def B2 (P : PT) (x0 : Int) (H : AHeap) : Prop :=
  B1 P x0 H
theorem q2 (P : PT) : QB Tryz.prog T0 6 o2 (En 6 k0 (B1 P)) k0 (B2 P) := fun _ _ _  => by kernel_rfl
noncomputable def code : Code := (.seq (.region 0 ⟨o2⟩ false) (.seq (.region 1 ⟨o1⟩ false) .ret))
theorem body : Tryz.f209.body = some code := by kernel_rfl
theorem main (P : PT) : ∀ env H, (En 6 k0 (B2 P)) env H → AW Tryz.prog T0 code env H (mkQ (ret P) (fun _ _ _ => False) (ret P)) :=
  (r_seq (rB T0_ok (q2 P)) (r_seq (rB T0_ok (q1 P)) r_ret))
theorem ac (P : PT) (x0 : Int) (H : AHeap) (h : B2 P x0 H) : AC Tryz.prog T0 209 [(Value.int .i64 x0)] H P :=
  r_fn T0_ok (c := code) (n := 6) Tryz.func209 body (by kernel_rfl) (main P) (En_mk (x0, ()) (by kernel_rfl) ⟨by kernel_rfl, trivial⟩ h)

end F209
-- loop.example/g01329/impl.isSize
namespace F214
noncomputable def ret (P : PT) : EP := retE T0 10 Tryz.f214 P
abbrev k0 : Sk := [(0,.i .i64)]
noncomputable def o1 := ob Tryz.f214 [.r,.l]
def B1 (P : PT) (x0 : Int) (H : AHeap) : Prop :=
  AC Tryz.prog T0 77 [(Value.int .i64 x0), (Value.int .i64 2), (Value.int .i64 20)] H (fun v1 H2 => asB v1 (fun v3 => pif v3 (P (Value.bool ((Int.tmod x0 2 : Int) == 0)) H2) (P (Value.bool false) H2)))
theorem q1 (P : PT) : QB Tryz.prog T0 10 o1 (ret P) k0 (B1 P) := fun _ _ _  => by kernel_rfl
noncomputable def o2 := ob Tryz.f214 [.l]
def B2 (P : PT) (x0 : Int) (H : AHeap) : Prop :=
  B1 P x0 H
theorem q2 (P : PT) : QB Tryz.prog T0 10 o2 (En 10 k0 (B1 P)) k0 (B2 P) := fun _ _ _  => by kernel_rfl
noncomputable def code : Code := (.seq (.region 0 ⟨o2⟩ false) (.seq (.region 1 ⟨o1⟩ false) .ret))
theorem body : Tryz.f214.body = some code := by kernel_rfl
theorem main (P : PT) : ∀ env H, (En 10 k0 (B2 P)) env H → AW Tryz.prog T0 code env H (mkQ (ret P) (fun _ _ _ => False) (ret P)) :=
  (r_seq (rB T0_ok (q2 P)) (r_seq (rB T0_ok (q1 P)) r_ret))
theorem ac (P : PT) (x0 : Int) (H : AHeap) (h : B2 P x0 H) : AC Tryz.prog T0 214 [(Value.int .i64 x0)] H P :=
  r_fn T0_ok (c := code) (n := 10) Tryz.func214 body (by kernel_rfl) (main P) (En_mk (x0, ()) (by kernel_rfl) ⟨by kernel_rfl, trivial⟩ h)

end F214
-- loop.example/g01329/impl.areEdges$1
namespace F215
noncomputable def ret (P : PT) : EP := retE T0 23 Tryz.f215 P
abbrev k0 : Sk := [(1,.v),(2,.x)]
noncomputable def o1 := ob Tryz.f215 [.r,.l]
def B1 (P : PT) (x1 : Value) (x2 : Nat) (H : AHeap) : Prop :=
  ldI .i64 H x2 0 (fun v1 => asP x1 (fun b2 o3 => ldI .i64 H b2 o3 (fun v4 => AC Tryz.prog T0 77 [(Value.int .i64 v1), (Value.int .i64 0), (Value.int .i64 (IntKind.i64.wrap (v4 - 1)))] H (fun v5 H6 => asB v5 (fun v7 => pif v7 (ldI .i64 H6 x2 1 (fun v8 => asP x1 (fun b9 o10 => ldI .i64 H6 b9 o10 (fun v11 => AC Tryz.prog T0 77 [(Value.int .i64 v8), (Value.int .i64 0), (Value.int .i64 (IntKind.i64.wrap (v11 - 1)))] H6 (fun v12 H13 => asB v12 (fun v14 => pif v14 (ldI .i64 H13 x2 0 (fun v15 => ldI .i64 H13 x2 1 (fun v16 => P (Value.bool ((v15 : Int) != v16)) H13))) (P (Value.bool false) H13))))))) (P (Value.bool false) H6))))))
theorem q1 (P : PT) : QB Tryz.prog T0 23 o1 (ret P) k0 (B1 P) := fun _ _ _ _  => by kernel_rfl
abbrev k1 : Sk := [(0,.g [.i,.i]),(1,.v)]
noncomputable def o2 := ob Tryz.f215 [.l]
def B2 (P : PT) (x0a x0b : Int) (x1 : Value) (H : AHeap) : Prop :=
  newK H [(Value.int .i64 x0a), (Value.int .i64 x0b)] 78 (fun b1 H2 => B1 P x1 b1 H2)
theorem q2 (P : PT) : QB Tryz.prog T0 23 o2 (En 23 k0 (B1 P)) k1 (B2 P) := fun _ _ _ _ _  => by kernel_rfl
noncomputable def code : Code := (.seq (.region 0 ⟨o2⟩ false) (.seq (.region 1 ⟨o1⟩ false) .ret))
theorem body : Tryz.f215.body = some code := by kernel_rfl
theorem main (P : PT) : ∀ env H, (En 23 k1 (B2 P)) env H → AW Tryz.prog T0 code env H (mkQ (ret P) (fun _ _ _ => False) (ret P)) :=
  (r_seq (rB T0_ok (q2 P)) (r_seq (rB T0_ok (q1 P)) r_ret))
theorem ac (P : PT) (x0a x0b : Int) (x1 : Value) (H : AHeap) (h : B2 P x0a x0b x1 H) : AC Tryz.prog T0 215 [(Value.agg ⟨[(Value.int .i64 x0a), (Value.int .i64 x0b)]⟩), x1] H P :=
  r_fn T0_ok (c := code) (n := 23) Tryz.func215 body (by kernel_rfl) (main P) (En_mk (x0a, x0b, x1, ()) (by kernel_rfl) ⟨by kernel_rfl, by kernel_rfl, trivial⟩ h)

end F215
-- slices.ContainsFunc[[]loop.example/g01329/impl.Edge,loop.example/g01329/impl.Edge]
namespace F216
noncomputable def ret (P : PT) : EP := retE T0 9 Tryz.f216 P
abbrev k0 : Sk := [(0,.v),(1,.v)]
noncomputable def o1 := ob Tryz.f216 [.r,.l]
def B1 (P : PT) (x0 x1 : Value) (H : AHeap) : Prop :=
  AC Tryz.prog T0 228 [x0, x1] H (fun v1 H2 => asI .i64 v1 (fun v3 => P (Value.bool (decide ((v3 : Int) ≥ 0))) H2))
theorem q1 (P : PT) : QB Tryz.prog T0 9 o1 (ret P) k0 (B1 P) := fun _ _ _ _  => by kernel_rfl
noncomputable def o2 := ob Tryz.f216 [.l]
def B2 (P : PT) (x0 x1 : Value) (H : AHeap) : Prop :=
  B1 P x0 x1 H
theorem q2 (P : PT) : QB Tryz.prog T0 9 o2 (En 9 k0 (B1 P)) k0 (B2 P) := fun _ _ _ _  => by kernel_rfl
noncomputable def code : Code := (.seq (.region 0 ⟨o2⟩ false) (.seq (.region 1 ⟨o1⟩ false) .ret))
theorem body : Tryz.f216.body = some code := by kernel_rfl
theorem main (P : PT) : ∀ env H, (En 9 k0 (B2 P)) env H → AW Tryz.prog T0 code env H (mkQ (ret P) (fun _ _ _ => False) (ret P)) :=
  (r_seq (rB T0_ok (q2 P)) (r_seq (rB T0_ok (q1 P)) r_ret))
theorem ac (P : PT) (x0 x1 : Value) (H : AHeap) (h : B2 P x0 x1 H) : AC Tryz.prog T0 216 [x0, x1] H P :=
  r_fn T0_ok (c := code) (n := 9) Tryz.func216 body (by kernel_rfl) (main P) (En_mk (x0, x1, ()) (by kernel_rfl) ⟨by kernel_rfl, by kernel_rfl, trivial⟩ h)

end F216
-- loop.example/g01329/impl.areAll[loop.example/g01329/impl.Edge]$1
namespace F217
noncomputable def ret (P : PT) : EP := retE T0 8 Tryz.f217 P
abbrev k0 : Sk := [(1,.v),(2,.x)]
noncomputable def o1 := ob Tryz.f217 [.r,.l]
def B1 (P : PT) (x1 : Value) (x2 : Nat) (H : AHeap) : Prop :=
  asP x1 (fun b1 o2 => ld1 H b1 o2 (fun v3 => ldI .i64 H x2 0 (fun v4 => ldI .i64 H x2 1 (fun v5 => callV Tryz.prog T0 v3 [(Value.agg ⟨[(Value.int .i64 v4), (Value.int .i64 v5)]⟩)] H (fun v6 H7 => asB v6 (fun v8 => P (Value.bool (!v8)) H7))))))
theorem q1 (P : PT) : QB Tryz.prog T0 8 o1 (ret P) k0 (B1 P) := fun _ _ _ _  => by kernel_rfl
abbrev k1 : Sk := [(0,.g [.i,.i]),(1,.v)]
noncomputable def o2 := ob Tryz.f217 [.l]
def B2 (P : PT) (x0a x0b : Int) (x1 : Value) (H : AHeap) : Prop :=
  newK H [(Value.int .i64 x0a), (Value.int .i64 x0b)] 78 (fun b1 H2 => B1 P x1 b1 H2)
theorem q2 (P : PT) : QB Tryz.prog T0 8 o2 (En 8 k0 (B1 P)) k1 (B2 P) := fun _ _ _ _ _  => by kernel_rfl
noncomputable def code : Code := (.seq (.region 0 ⟨o2⟩ false) (.seq (.region 1 ⟨o1⟩ false) .ret))
theorem body : Tryz.f217.body = some code := by kernel_rfl
theorem main (P : PT) : ∀ env H, (En 8 k1 (B2 P)) env H → AW Tryz.prog T0 code env H (mkQ (ret P) (fun _ _ _ => False) (ret P)) :=
  (r_seq (rB T0_ok (q2 P)) (r_seq (rB T0_ok (q1 P)) r_ret))
theorem ac (P : PT) (x0a x0b : Int) (x1 : Value) (H : AHeap) (h : B2 P x0a x0b x1 H) : AC Tryz.prog T0 217 [(Value.agg ⟨[(Value.int .i64 x0a), (Value.int .i64 x0b)]⟩), x1] H P :=
  r_fn T0_ok (c := code) (n := 8) Tryz.func217 body (by kernel_rfl) (main P) (En_mk (x0a, x0b, x1, ()) (by kernel_rfl) ⟨by kernel_rfl, by kernel_rfl, trivial⟩ h)

end F217
-- loop.example/g01329/impl.areAll[int]
namespace F218
noncomputable def ret (P : PT) : EP := retE T0 9 Tryz.f218 P
abbrev k0 : Sk := [(0,.v),(3,.x)]
noncomputable def o1 := ob Tryz.f218 [.r,.l]
def B1 (P : PT) (x0 : Value) (x3 : Nat) (H : AHeap) : Prop :=
  AC Tryz.prog T0 229 [x0, (Value.func (.func 230) ⟨[]⟩ ⟨[(Value.pointer (some ⟨x3, 0, none⟩))]⟩)] H (fun v1 H2 => asB v1 (fun v3 => P (Value.bool (!v3)) H2))
theorem q1 (P : PT) : QB Tryz.prog T0 9 o1 (ret P) k0 (B1 P) := fun _ _ _ _  => by kernel_rfl
abbrev k1 : Sk := [(0,.v),(1,.v)]
noncomputable def o2 := ob Tryz.f218 [.l]
def B2 (P : PT) (x0 x1 : Value) (H : AHeap) : Prop :=
  pif (Value.oneCell' x1) (newK H [x1] 189 (fun b1 H2 => B1 P x0 b1 H2)) False
theorem q2 (P : PT) : QB Tryz.prog T0 9 o2 (En 9 k0 (B1 P)) k1 (B2 P) := fun _ _ _ _  => by kernel_rfl
noncomputable def code : Code := (.seq (.region 0 ⟨o2⟩ false) (.seq (.region 1 ⟨o1⟩ false) .ret))
theorem body : Tryz.f218.body = some code := by kernel_rfl
theorem main (P : PT) : ∀ env H, (En 9 k1 (B2 P)) env H → AW Tryz.prog T0 code env H (mkQ (ret P) (fun _ _ _ => False) (ret P)) :=
  (r_seq (rB T0_ok (q2 P)) (r_seq (rB T0_ok (q1 P)) r_ret))
theorem ac (P : PT) (x0 x1 : Value) (H : AHeap) (h : B2 P x0 x1 H) : AC Tryz.prog T0 218 [x0, x1] H P :=
  r_fn T0_ok (c := code) (n := 9) Tryz.func218 body (by kernel_rfl) (main P) (En_mk (x0, x1, ()) (by kernel_rfl) ⟨by kernel_rfl, by kernel_rfl, trivial⟩ h)

end F218
-- loop.example/g01329/impl.isCubic$1
namespace F219
noncomputable def ret (P : PT) : EP := retE T0 5 Tryz.f219 P
abbrev k0 : Sk := [(0,.i .i64)]
noncomputable def o1 := ob Tryz.f219 [.r,.l]
def B1 (P : PT) (x0 : Int) (H : AHeap) : Prop :=
  P (Value.bool ((x0 : Int) == 3)) H
theorem q1 (P : PT) : QB Tryz.prog T0 5 o1 (ret P) k0 (B1 P) := fun _ _ _  => by kernel_rfl
noncomputable def o2 := ob Tryz.f219 [.l]
def B2 (P : PT) (x0 : Int) (H : AHeap) : Prop :=
  B1 P x0 H
theorem q2 (P : PT) : QB Tryz.prog T0 5 o2 (En 5 k0 (B1 P)) k0 (B2 P) := fun _ _ _  => by kernel_rfl
noncomputable def code : Code := (.seq (.region 0 ⟨o2⟩ false) (.seq (.region 1 ⟨o1⟩ false) .ret))
theorem body : Tryz.f219.body = some code := by kernel_rfl
theorem main (P : PT) : ∀ env H, (En 5 k0 (B2 P)) env H → AW Tryz.prog T0 code env H (mkQ (ret P) (fun _ _ _ => False) (ret P)) :=
  (r_seq (rB T0_ok (q2 P)) (r_seq (rB T0_ok (q1 P)) r_ret))
theorem ac (P : PT) (x0 : Int) (H : AHeap) (h : B2 P x0 H) : AC Tryz.prog T0 219 [(Value.int .i64 x0)] H P :=
  r_fn T0_ok (c := code) (n := 5) Tryz.func219 body (by kernel_rfl) (main P) (En_mk (x0, ()) (by kernel_rfl) ⟨by kernel_rfl, trivial⟩ h)

end F219
-- math/bits.Mul
namespace F221
noncomputable def ret (P : PT) : EP := retE T0 30 Tryz.f221 P
abbrev k0 : Sk := [(8,.i .u64),(9,.i .u64)]
noncomputable def o1 := ob Tryz.f221 [.r,.r,.r,.l]
def B1 (P : PT) (x8 x9 : Int) (H : AHeap) : Prop :=
  P (Value.tuple ⟨[(Value.int .u64 x8), (Value.int .u64 x9)]⟩) H
theorem q1 (P : PT) : QB Tryz.prog T0 30 o1 (ret P) k0 (B1 P) := fun _ _ _ _  => by kernel_rfl
abbrev k1 : Sk := [(0,.i .u64),(1,.i .u64)]
noncomputable def o2 := ob Tryz.f221 [.r,.r,.l]
def B2 (P : PT) (x0 x1 : Int) (H : AHeap) : Prop :=
  AC Tryz.prog T0 232 [(Value.int .u64 x0), (Value.int .u64 x1)] H (fun v1 H2 => tup2 v1 (fun v3 v4 => asI .u64 v3 (fun v5 => asI .u64 v4 (fun v6 => B1 P v5 v6 H2))))
theorem q2 (P : PT) : QB Tryz.prog T0 30 o2 (En 30 k0 (B1 P)) k1 (B2 P) := fun _ _ _ _  => by kernel_rfl
noncomputable def o3 := ob Tryz.f221 [.l]
def B3 (P : PT) (x0 x1 : Int) (H : AHeap) : Prop :=
  B2 P x0 x1 H
theorem q3 (P : PT) : QB Tryz.prog T0 30 o3 (En 30 k1 (B2 P)) k1 (B3 P) := fun _ _ _ _  => by kernel_rfl
noncomputable def code : Code := (.seq (.region 0 ⟨o3⟩ false) (.seq (.cond (.const (.bool false)) (codeAt (bodyOf Tryz.f221) [.r,.l,.l]) .skip) (.seq (.region 3 ⟨o2⟩ false) (.seq (.region 4 ⟨o1⟩ false) .ret))))
theorem body : Tryz.f221.body = some code := by kernel_rfl
theorem main (P : PT) : ∀ env H, (En 30 k1 (B3 P)) env H → AW Tryz.prog T0 code env H (mkQ (ret P) (fun _ _ _ => False) (ret P)) :=
  (r_seq (rB T0_ok (q3 P)) (r_seq (r_condF r_skip) (r_seq (rB T0_ok (q2 P)) (r_seq (rB T0_ok (q1 P)) r_ret))))
theorem ac (P : PT) (x0 x1 : Int) (H : AHeap) (h : B3 P x0 x1 H) : AC Tryz.prog T0 221 [(Value.int .u64 x0), (Value.int .u64 x1)] H P :=
  r_fn T0_ok (c := code) (n := 30) Tryz.func221 body (by kernel_rfl) (main P) (En_mk (x0, x1, ()) (by kernel_rfl) ⟨by kernel_rfl, by kernel_rfl, trivial⟩ h)

end F221
-- slices.siftDownCmpFunc[loop.example/g01329/impl.set]
namespace F222
noncomputable def ret (P : PT) : EP := retE T0 82 Tryz.f222 P
abbrev k0 : Sk := [(0,.v),(2,.i .i64),(3,.i .i64),(4,.v),(10,.i .i64)]
abbrev k1 : Sk := [(0,.v),(2,.i .i64),(3,.i .i64),(4,.v),(11,.i .i64)]
noncomputable def o2 := ob Tryz.f222 [.r,.l,.l,.l,.r,.r,.r,.r,.r]
def B2 (P : PT) (N1 : NTy k0 Pr) (x0 : Value) (x2 x3 : Int) (x4 : Value) (x11 : Int) (H : AHeap) : Prop :=
  N1 x0 x2 x3 x4 x11 H
theorem q2 (P : PT) (N1 : NTy k0 Pr) : QB Tryz.prog T0 82 o2 (En 82 k0 N1) k1 (B2 P N1) := fun _ _ _ _ _ _ _  => by kernel_rfl
abbrev k2 : Sk := [(0,.v),(2,.i .i64),(3,.i .i64),(4,.v),(10,.i .i64),(11,.i .i64)]
noncomputable def o3 := ob Tryz.f222 [.r,.l,.l,.l,.r,.r,.r,.r,.l]
def B3 (P : PT) (N1 : NTy k0 Pr) (x0 : Value) (x2 x3 : Int) (x4 : Value) (x10 x11 : Int) (H : AHeap) : Prop :=
  idxK x0 (IntKind.i64.wrap (x3 + x11)) 1 (fun b1 o2 => ldI .u64 H b1 o2 (fun v3 => idxK x0 (IntKind.i64.wrap (x3 + x10)) 1 (fun b4 o5 => ldI .u64 H b4 o5 (fun v6 => idxK x0 (IntKind.i64.wrap (x3 + x10)) 1 (fun b7 o8 => stK H b7 o8 [(Value.int .u64 v3)] (fun H9 => idxK x0 (IntKind.i64.wrap (x3 + x11)) 1 (fun b10 o11 => stK H9 b10 o11 [(Value.int .u64 v6)] (fun H12 => B2 P N1 x0 x2 x3 x4 x11 H12))))))))
theorem q3 (P : PT) (N1 : NTy k0 Pr) : QD Tryz.prog T0 82 o3 [(0, false), (1, false), (2, false), (3, false), (4, false), (5, false), (6, false), (7, false), (8, false), (9, false), (10, false), (11, false), (12, false), (13, false), (14, false), (15, false), (16, false), (17, false), (18, false), (19, false), (20, false), (21, false), (22, false), (23, false)] (En 82 k1 (B2 P N1)) k2 (B3 P N1) := fun _ _ _ _ _ _ _ _  => by kernel_rfl
noncomputable def o4 := ob Tryz.f222 [.r,.l,.l,.l,.r,.r,.r,.l,.l]
def B4 (P : PT) (N1 : NTy k0 Pr) (x0 : Value) (x2 x3 : Int) (x4 : Value) (x10 x11 : Int) (H : AHeap) : Prop :=
  idxK x0 (IntKind.i64.wrap (x3 + x10)) 1 (fun b1 o2 => ldI .u64 H b1 o2 (fun v3 => idxK x0 (IntKind.i64.wrap (x3 + x11)) 1 (fun b4 o5 => ldI .u64 H b4 o5 (fun v6 => callV Tryz.prog T0 x4 [(Value.int .u64 v3), (Value.int .u64 v6)] H (fun v7 H8 => asI .i64 v7 (fun v9 => pif (!(decide ((v9 : Int) < 0))) (P (Value.tuple ⟨[]⟩) H8) (B3 P N1 x0 x2 x3 x4 x10 x11 H8)))))))
theorem q4 (P : PT) (N1 : NTy k0 Pr) : QD Tryz.prog T0 82 o4 [(0, false), (1, false), (2, false), (3, false), (4, false), (5, false), (6, false), (7, false), (8, false), (9, false), (10, false), (11, false), (12, false), (13, false), (14, false), (15, false)] (cnd 58 (ret P) (En 82 k2 (B3 P N1))) k2 (B4 P N1) := fun _ _ _ _ _ _ _ _  => by kernel_rfl
noncomputable def o5 := ob Tryz.f222 [.r,.l,.l,.l,.r,.r,.l,.r,.l]
def B5 (P : PT) (N1 : NTy k0 Pr) (x0 : Value) (x2 x3 : Int) (x4 : Value) (x10 x11 : Int) (H : AHeap) : Prop :=
  B4 P N1 x0 x2 x3 x4 x10 (IntKind.i64.wrap (x11 + 1)) H
theorem q5 (P : PT) (N1 : NTy k0 Pr) : QB Tryz.prog T0 82 o5 (En 82 k2 (B4 P N1)) k2 (B5 P N1) := fun _ _ _ _ _ _ _ _  => by kernel_rfl
noncomputable def o6 := ob Tryz.f222 [.r,.l,.l,.l,.r,.r,.l,.l]
def B6 (P : PT) (N1 : NTy k0 Pr) (x0 : Value) (x2 x3 : Int) (x4 : Value) (x10 x11 : Int) (H : AHeap) : Prop :=
  pif (decide ((IntKind.i64.wrap (x11 + 1) : Int) < x2)) (idxK x0 (IntKind.i64.wrap (x3 + x11)) 1 (fun b1 o2 => ldI .u64 H b1 o2 (fun v3 => idxK x0 (IntKind.i64.wrap ((IntKind.i64.wrap (x3 + x11)) + 1)) 1 (fun b4 o5 => ldI .u64 H b4 o5 (fun v6 => callV Tryz.prog T0 x4 [(Value.int .u64 v3), (Value.int .u64 v6)] H (fun v7 H8 => asI .i64 v7 (fun v9 => pif (decide ((v9 : Int) < 0)) (B5 P N1 x0 x2 x3 x4 x10 x11 H8) (B4 P N1 x0 x2 x3 x4 x10 x11 H8)))))))) (B4 P N1 x0 x2 x3 x4 x10 x11 H)
theorem q6 (P : PT) (N1 : NTy k0 Pr) : QD Tryz.prog T0 82 o6 [(0, false), (1, false), (2, false), (3, false), (4, false), (5, false), (6, false), (7, false), (8, false), (9, false), (10, false), (11, false), (12, false), (13, false), (14, false), (15, false), (16, false), (17, false), (18, false), (19, false), (20, false), (21, false)] (cnd 40 (En 82 k2 (B5 P N1)) (En 82 k2 (B4 P N1))) k2 (B6 P N1) := fun _ _ _ _ _ _ _ _  => by kernel_rfl
noncomputable def o7 := ob Tryz.f222 [.r,.l,.l,.l,.r,.l,.l]
def B7 (P : PT) (N1 : NTy k0 Pr) (x0 : Value) (x2 x3 : Int) (x4 : Value) (x10 x11 : Int) (H : AHeap) : Prop :=
  pif (decide ((x11 : Int) ≥ x2)) (P (Value.tuple ⟨[]⟩) H) (B6 P N1 x0 x2 x3 x4 x10 x11 H)
theorem q7 (P : PT) (N1 : NTy k0 Pr) : QB Tryz.prog T0 82 o7 (cnd 18 (ret P) (En 82 k2 (B6 P N1))) k2 (B7 P N1) := fun _ _ _ _ _ _ _ _  => by kernel_rfl
noncomputable def o8 := ob Tryz.f222 [.r,.l,.l,.l,.l]
def B8 (P : PT) (N1 : NTy k0 Pr) (x0 : Value) (x2 x3 : Int) (x4 : Value) (x10 : Int) (H : AHeap) : Prop :=
  B7 P N1 x0 x2 x3 x4 x10 (IntKind.i64.wrap ((IntKind.i64.wrap (2 * x10)) + 1)) H
theorem q8 (P : PT) (N1 : NTy k0 Pr) : QB Tryz.prog T0 82 o8 (En 82 k2 (B7 P N1)) k0 (B8 P N1) := fun _ _ _ _ _ _ _  => by kernel_rfl
def L1 (P : PT) (x0 : Value) (x2 x3 : Int) (x4 : Value) (x10 : Int) (H : AHeap) : Prop :=
  ∃ (I : NTy k0 Pr) (μ : NTy k0 (AHeap → Nat)), I x0 x2 x3 x4 x10 H ∧ ∀ y0 y2 y3 y4 y10 G, I y0 y2 y3 y4 y10 G → B8 P (fun z0 z2 z3 z4 z10 G' => I z0 z2 z3 z4 z10 G' ∧ μ z0 z2 z3 z4 z10 G' < μ y0 y2 y3 y4 y10 G) y0 y2 y3 y4 y10 G
theorem l1 (P : PT) : LQ k0 (L1 P) (B8 P) := fun ⟨_,_,_,_,_,_⟩ _ ⟨I, μ, h0, hI⟩ => ⟨apT _ I, apT _ μ, h0, fun ⟨_,_,_,_,_,_⟩ _ h => hI _ _ _ _ _ _  h⟩
abbrev k3 : Sk := [(0,.v),(1,.i .i64),(2,.i .i64),(3,.i .i64),(4,.v)]
noncomputable def o9 := ob Tryz.f222 [.l]
def B9 (P : PT) (x0 : Value) (x1 x2 x3 : Int) (x4 : Value) (H : AHeap) : Prop :=
  L1 P x0 x2 x3 x4 x1 H
theorem q9 (P : PT) : QB Tryz.prog T0 82 o9 (En 82 k0 (L1 P)) k3 (B9 P) := fun _ _ _ _ _ _ _  => by kernel_rfl
noncomputable def code : Code := (.seq (.region 0 ⟨o9⟩ false) (.block 0 (.loop (.block 1 (.seq (.region 1 ⟨o8⟩ false) (.seq (.seq (.region 2 ⟨o7⟩ false) (.cond (.tmp 18) (.exit 0) .skip)) (.seq (.seq (.region 3 ⟨o6⟩ true) (.cond (.tmp 40) (.region 4 ⟨o5⟩ false) .skip)) (.seq (.seq (.region 5 ⟨o4⟩ true) (.cond (.tmp 58) .ret .skip)) (.seq (.region 6 ⟨o3⟩ true) (.region 7 ⟨o2⟩ false))))))))))
theorem body : Tryz.f222.body = some code := by kernel_rfl
theorem main (P : PT) : ∀ env H, (En 82 k3 (B9 P)) env H → AW Tryz.prog T0 code env H (mkQ (ret P) (fun _ _ _ => False) (ret P)) :=
  (r_seq (rB T0_ok (q9 P)) (r_block (rL (l1 P) (fun N1 => (r_block (r_seq (rB T0_ok (q8 P N1)) (r_seq (r_seq (rB T0_ok (q7 P N1)) (r_cond rfl (r_exit (fun _ _ h => h)) r_skip)) (r_seq (r_seq (rD T0_ok mixed [(0, false), (1, false), (2, false), (3, false), (4, false), (5, false), (6, false), (7, false), (8, false), (9, false), (10, false), (11, false), (12, false), (13, false), (14, false), (15, false), (16, false), (17, false), (18, false), (19, false), (20, false), (21, false)] (by kernel_rfl) (q6 P N1)) (r_cond rfl (rB T0_ok (q5 P N1)) r_skip)) (r_seq (r_seq (rD T0_ok mixed [(0, false), (1, false), (2, false), (3, false), (4, false), (5, false), (6, false), (7, false), (8, false), (9, false), (10, false), (11, false), (12, false), (13, false), (14, false), (15, false)] (by kernel_rfl) (q4 P N1)) (r_cond rfl r_ret r_skip)) (r_seq (rD T0_ok mixed [(0, false), (1, false), (2, false), (3, false), (4, false), (5, false), (6, false), (7, false), (8, false), (9, false), (10, false), (11, false), (12, false), (13, false), (14, false), (15, false), (16, false), (17, false), (18, false), (19, false), (20, false), (21, false), (22, false), (23, false)] (by kernel_rfl) (q3 P N1)) (rB T0_ok (q2 P N1))))))))))))
theorem ac (P : PT) (x0 : Value) (x1 x2 x3 : Int) (x4 : Value) (H : AHeap) (h : B9 P x0 x1 x2 x3 x4 H) : AC Tryz.prog T0 222 [x0, (Value.int .i64 x1), (Value.int .i64 x2), (Value.int .i64 x3), x4] H P :=
  r_fn T0_ok (c := code) (n := 82) Tryz.func222 body (by kernel_rfl) (main P) (En_mk (x0, x1, x2, x3, x4, ()) (by kernel_rfl) ⟨by kernel_rfl, by kernel_rfl, by kernel_rfl, by kernel_rfl, by kernel_rfl, trivial⟩ h)

end F222
-- slices.nextPowerOfTwo
namespace F223
noncomputable def ret (P : PT) : EP := retE T0 7 Tryz.f223 P
abbrev k0 : Sk := [(0,.i .i64)]
noncomputable def o1 := ob Tryz.f223 [.r,.l]
def B1 (P : PT) (x0 : Int) (H : AHeap) : Prop :=
  AC Tryz.prog T0 167 [(Value.int .u64 (IntKind.u64.wrap x0))] H (fun v1 H2 => asI .i64 v1 (fun v3 => ((0 : Int) ≤ v3) ∧ (P (Value.int .u64 (IntKind.u64.wrap (1 * 2 ^ (min (Int.toNat v3) 64)))) H2)))
theorem q1 (P : PT) : QB Tryz.prog T0 7 o1 (ret P) k0 (B1 P) := fun _ _ _  => by kernel_rfl
noncomputable def o2 := ob Tryz.f223 [.l]
def B2 (P : PT) (x0 : Int) (H : AHeap) : Prop :=
  B1 P x0 H
theorem q2 (P : PT) : QB Tryz.prog T0 7 o2 (En 7 k0 (B1 P)) k0 (B2 P) := fun _ _ _  => by kernel_rfl
noncomputable def code : Code := (.seq (.region 0 ⟨o2⟩ false) (.seq (.region 1 ⟨o1⟩ false) .ret))
theorem body : Tryz.f223.body = some code := by kernel_rfl
theorem main (P : PT) : ∀ env H, (En 7 k0 (B2 P)) env H → AW Tryz.prog T0 code env H (mkQ (ret P) (fun _ _ _ => False) (ret P)) :=
  (r_seq (rB T0_ok (q2 P)) (r_seq (rB T0_ok (q1 P)) r_ret))
theorem ac (P : PT) (x0 : Int) (H : AHeap) (h : B2 P x0 H) : AC Tryz.prog T0 223 [(Value.int .i64 x0)] H P :=
  r_fn T0_ok (c := code) (n := 7) Tryz.func223 body (by kernel_rfl) (main P) (En_mk (x0, ()) (by kernel_rfl) ⟨by kernel_rfl, trivial⟩ h)

end F223
-- (*slices.xorshift).Next
namespace F224
noncomputable def ret (P : PT) : EP := retE T0 33 Tryz.f224 P
abbrev k0 : Sk := [(0,.v)]
noncomputable def o1 := ob Tryz.f224 [.r,.r,.r,.r,.l]
def B1 (P : PT) (x0 : Value) (H : AHeap) : Prop :=
  nilK x0 (fun v1 => asP v1 (fun b2 o3 => ldI .u64 H b2 o3 (fun v4 => P (Value.int .u64 v4) H)))
theorem q1 (P : PT) : QB Tryz.prog T0 33 o1 (ret P) k0 (B1 P) := fun _ _ _  => by kernel_rfl
noncomputable def o2 := ob Tryz.f224 [.r,.r,.r,.l]
def B2 (P : PT) (x0 : Value) (H : AHeap) : Prop :=
  nilK x0 (fun v1 => asP v1 (fun b2 o3 => ldI .u64 H b2 o3 (fun v4 => nilK x0 (fun v5 => asP v5 (fun b6 o7 => ldI .u64 H b6 o7 (fun v8 => ((0 : Int) ≤ 17) ∧ (nilK x0 (fun v9 => asP v9 (fun b10 o11 => stK H b10 o11 [(Value.int .u64 (IntKind.u64.wrap (BitVec.ofInt 64 v4 ^^^ BitVec.ofInt 64 (IntKind.u64.wrap (v8 * 2 ^ (min (Int.toNat 17) 64)))).toNat))] (fun H12 => B1 P x0 H12))))))))))
theorem q2 (P : PT) : QD Tryz.prog T0 33 o2 [(0, false), (1, false), (2, false), (3, false), (4, false), (5, false), (6, false), (7, false), (8, false), (9, false)] (En 33 k0 (B1 P)) k0 (B2 P) := fun _ _ _  => by kernel_rfl
noncomputable def o3 := ob Tryz.f224 [.r,.r,.l]
def B3 (P : PT) (x0 : Value) (H : AHeap) : Prop :=
  nilK x0 (fun v1 => asP v1 (fun b2 o3 => ldI .u64 H b2 o3 (fun v4 => nilK x0 (fun v5 => asP v5 (fun b6 o7 => ldI .u64 H b6 o7 (fun v8 => ((0 : Int) ≤ 7) ∧ (nilK x0 (fun v9 => asP v9 (fun b10 o11 => stK H b10 o11 [(Value.int .u64 (IntKind.u64.wrap (BitVec.ofInt 64 v4 ^^^ BitVec.ofInt 64 (Int.fdiv v8 (2 ^ (min (Int.toNat 7) 64)))).toNat))] (fun H12 => B2 P x0 H12))))))))))
theorem q3 (P : PT) : QD Tryz.prog T0 33 o3 [(0, false), (1, false), (2, false), (3, false), (4, false), (5, false), (6, false), (7, false), (8, false), (9, false)] (En 33 k0 (B2 P)) k0 (B3 P) := fun _ _ _  => by kernel_rfl
noncomputable def o4 := ob Tryz.f224 [.r,.l]
def B4 (P : PT) (x0 : Value) (H : AHeap) : Prop :=
  nilK x0 (fun v1 => asP v1 (fun b2 o3 => ldI .u64 H b2 o3 (fun v4 => nilK x0 (fun v5 => asP v5 (fun b6 o7 => ldI .u64 H b6 o7 (fun v8 => ((0 : Int) ≤ 13) ∧ (nilK x0 (fun v9 => asP v9 (fun b10 o11 => stK H b10 o11 [(Value.int .u64 (IntKind.u64.wrap (BitVec.ofInt 64 v4 ^^^ BitVec.ofInt 64 (IntKind.u64.wrap (v8 * 2 ^ (min (Int.toNat 13) 64)))).toNat))] (fun H12 => B3 P x0 H12))))))))))
theorem q4 (P : PT) : QD Tryz.prog T0 33 o4 [(0, false), (1, false), (2, false), (3, false), (4, false), (5, false), (6, false), (7, false), (8, false), (9, false)] (En 33 k0 (B3 P)) k0 (B4 P) := fun _ _ _  => by kernel_rfl
noncomputable def o5 := ob Tryz.f224 [.l]
def B5 (P : PT) (x0 : Value) (H : AHeap) : Prop :=
  B4 P x0 H
theorem q5 (P : PT) : QB Tryz.prog T0 33 o5 (En 33 k0 (B4 P)) k0 (B5 P) := fun _ _ _  => by kernel_rfl
noncomputable def code : Code := (.seq (.region 0 ⟨o5⟩ false) (.seq (.region 1 ⟨o4⟩ true) (.seq (.region 2 ⟨o3⟩ true) (.seq (.region 3 ⟨o2⟩ true) (.seq (.region 4 ⟨o1⟩ false) .ret)))))
theorem body : Tryz.f224.body = some code := by kernel_rfl
theorem main (P : PT) : ∀ env H, (En 33 k0 (B5 P)) env H → AW Tryz.prog T0 code env H (mkQ (ret P) (fun _ _ _ => False) (ret P)) :=
  (r_seq (rB T0_ok (q5 P)) (r_seq (rD T0_ok mixed [(0, false), (1, false), (2, false), (3, false), (4, false), (5, false), (6, false), (7, false), (8, false), (9, false)] (by kernel_rfl) (q4 P)) (r_seq (rD T0_ok mixed [(0, false), (1, false), (2, false), (3, false), (4, false), (5, false), (6, false), (7, false), (8, false), (9, false)] (by kernel_rfl) (q3 P)) (r_seq (rD T0_ok mixed [(0, false), (1, false), (2, false), (3, false), (4, false), (5, false), (6, false), (7, false), (8, false), (9, false)] (by kernel_rfl) (q2 P)) (r_seq (rB T0_ok (q1 P)) r_ret)))))
theorem ac (P : PT) (x0 : Value) (H : AHeap) (h : B5 P x0 H) : AC Tryz.prog T0 224 [x0] H P :=
  r_fn T0_ok (c := code) (n := 33) Tryz.func224 body (by kernel_rfl) (main P) (En_mk (x0, ()) (by kernel_rfl) ⟨by kernel_rfl, trivial⟩ h)

end F224
-- slices.medianAdjacentCmpFunc[loop.example/g01329/impl.set]
namespace F225
noncomputable def ret (P : PT) : EP := retE T0 18 Tryz.f225 P
abbrev k0 : Sk := [(0,.v),(1,.i .i64),(2,.v),(3,.v)]
noncomputable def o1 := ob Tryz.f225 [.r,.l]
def B1 (P : PT) (x0 : Value) (x1 : Int) (x2 x3 : Value) (H : AHeap) : Prop :=
  AC Tryz.prog T0 226 [x0, (Value.int .i64 (IntKind.i64.wrap (x1 - 1))), (Value.int .i64 x1), (Value.int .i64 (IntKind.i64.wrap (x1 + 1))), x2, x3] H (fun v1 H2 => asI .i64 v1 (fun v3 => P (Value.int .i64 v3) H2))
theorem q1 (P : PT) : QB Tryz.prog T0 18 o1 (ret P) k0 (B1 P) := fun _ _ _ _ _ _  => by kernel_rfl
noncomputable def o2 := ob Tryz.f225 [.l]
def B2 (P : PT) (x0 : Value) (x1 : Int) (x2 x3 : Value) (H : AHeap) : Prop :=
  B1 P x0 x1 x2 x3 H
theorem q2 (P : PT) : QB Tryz.prog T0 18 o2 (En 18 k0 (B1 P)) k0 (B2 P) := fun _ _ _ _ _ _  => by kernel_rfl
noncomputable def code : Code := (.seq (.region 0 ⟨o2⟩ false) (.seq (.region 1 ⟨o1⟩ false) .ret))
theorem body : Tryz.f225.body = some code := by kernel_rfl
theorem main (P : PT) : ∀ env H, (En 18 k0 (B2 P)) env H → AW Tryz.prog T0 code env H (mkQ (ret P) (fun _ _ _ => False) (ret P)) :=
  (r_seq (rB T0_ok (q2 P)) (r_seq (rB T0_ok (q1 P)) r_ret))
theorem ac (P : PT) (x0 : Value) (x1 : Int) (x2 x3 : Value) (H : AHeap) (h : B2 P x0 x1 x2 x3 H) : AC Tryz.prog T0 225 [x0, (Value.int .i64 x1), x2, x3] H P :=
  r_fn T0_ok (c := code) (n := 18) Tryz.func225 body (by kernel_rfl) (main P) (En_mk (x0, x1, x2, x3, ()) (by kernel_rfl) ⟨by kernel_rfl, by kernel_rfl, by kernel_rfl, by kernel_rfl, trivial⟩ h)

end F225
-- slices.medianCmpFunc[loop.example/g01329/impl.set]
namespace F226
noncomputable def ret (P : PT) : EP := retE T0 41 Tryz.f226 P
abbrev k0 : Sk := [(2,.i .i64)]
noncomputable def o1 := ob Tryz.f226 [.r,.r,.r,.r,.l]
def B1 (P : PT) (x2 : Int) (H : AHeap) : Prop :=
  P (Value.int .i64 x2) H
theorem q1 (P : PT) : QB Tryz.prog T0 41 o1 (ret P) k0 (B1 P) := fun _ _ _  => by kernel_rfl
abbrev k1 : Sk := [(0,.v),(1,.i .i64),(2,.i .i64),(4,.v),(5,.v)]
noncomputable def o2 := ob Tryz.f226 [.r,.r,.r,.l]
def B2 (P : PT) (x0 : Value) (x1 x2 : Int) (x4 x5 : Value) (H : AHeap) : Prop :=
  AC Tryz.prog T0 233 [x0, (Value.int .i64 x1), (Value.int .i64 x2), x4, x5] H (fun v1 H2 => tup2 v1 (fun v3 v4 => asI .i64 v3 (fun v5 => asI .i64 v4 (fun v6 => B1 P v6 H2))))
theorem q2 (P : PT) : QB Tryz.prog T0 41 o2 (En 41 k0 (B1 P)) k1 (B2 P) := fun _ _ _ _ _ _ _  => by kernel_rfl
abbrev k2 : Sk := [(0,.v),(1,.i .i64),(2,.i .i64),(3,.i .i64),(4,.v),(5,.v)]
noncomputable def o3 := ob Tryz.f226 [.r,.r,.l]
def B3 (P : PT) (x0 : Value) (x1 x2 x3 : Int) (x4 x5 : Value) (H : AHeap) : Prop :=
  AC Tryz.prog T0 233 [x0, (Value.int .i64 x2), (Value.int .i64 x3), x4, x5] H (fun v1 H2 => tup2 v1 (fun v3 v4 => asI .i64 v3 (fun v5 => asI .i64 v4 (fun v6 => B2 P x0 x1 v5 x4 x5 H2))))
theorem q3 (P : PT) : QB Tryz.prog T0 41 o3 (En 41 k1 (B2 P)) k2 (B3 P) := fun _ _ _ _ _ _ _ _  => by kernel_rfl
noncomputable def o4 := ob Tryz.f226 [.r,.l]
def B4 (P : PT) (x0 : Value) (x1 x2 x3 : Int) (x4 x5 : Value) (H : AHeap) : Prop :=
  AC Tryz.prog T0 233 [x0, (Value.int .i64 x1), (Value.int .i64 x2), x4, x5] H (fun v1 H2 => tup2 v1 (fun v3 v4 => asI .i64 v3 (fun v5 => asI .i64 v4 (fun v6 => B3 P x0 v5 v6 x3 x4 x5 H2))))
theorem q4 (P : PT) : QB Tryz.prog T0 41 o4 (En 41 k2 (B3 P)) k2 (B4 P) := fun _ _ _ _ _ _ _ _  => by kernel_rfl
noncomputable def o5 := ob Tryz.f226 [.l]
def B5 (P : PT) (x0 : Value) (x1 x2 x3 : Int) (x4 x5 : Value) (H : AHeap) : Prop :=
  B4 P x0 x1 x2 x3 x4 x5 H
theorem q5 (P : PT) : QB Tryz.prog T0 41 o5 (En 41 k2 (B4 P)) k2 (B5 P) := fun _ _ _ _ _ _ _ _  => by kernel_rfl
noncomputable def code : Code := (.seq (.region 0 ⟨o5⟩ false) (.seq (.region 1 ⟨o4⟩ false) (.seq (.region 2 ⟨o3⟩ false) (.seq (.region 3 ⟨o2⟩ false) (.seq (.region 4 ⟨o1⟩ false) .ret)))))
theorem body : Tryz.f226.body = some code := by kernel_rfl
theorem main (P : PT) : ∀ env H, (En 41 k2 (B5 P)) env H → AW Tryz.prog T0 code env H (mkQ (ret P) (fun _ _ _ => False) (ret P)) :=
  (r_seq (rB T0_ok (q5 P)) (r_seq (rB T0_ok (q4 P)) (r_seq (rB T0_ok (q3 P)) (r_seq (rB T0_ok (q2 P)) (r_seq (rB T0_ok (q1 P)) r_ret)))))
theorem ac (P : PT) (x0 : Value) (x1 x2 x3 : Int) (x4 x5 : Value) (H : AHeap) (h : B5 P x0 x1 x2 x3 x4 x5 H) : AC Tryz.prog T0 226 [x0, (Value.int .i64 x1), (Value.int .i64 x2), (Value.int .i64 x3), x4, x5] H P :=
  r_fn T0_ok (c := code) (n := 41) Tryz.func226 body (by kernel_rfl) (main P) (En_mk (x0, x1, x2, x3, x4, x5, ()) (by kernel_rfl) ⟨by kernel_rfl, by kernel_rfl, by kernel_rfl, by kernel_rfl, by kernel_rfl, by kernel_rfl, trivial⟩ h)

end F226
-- slices.IndexFunc[[]loop.example/g01329/impl.Edge,loop.example/g01329/impl.Edge]
namespace F228
noncomputable def ret (P : PT) : EP := retE T0 19 Tryz.f228 P
abbrev k0 : Sk := []
noncomputable def o1 := ob Tryz.f228 [.r,.r,.l]
def B1 (P : PT) (H : AHeap) : Prop :=
  P (Value.int .i64 (-1)) H
theorem q1 (P : PT) : QB Tryz.prog T0 19 o1 (ret P) k0 (B1 P) := fun _ _  => by kernel_rfl
abbrev k1 : Sk := [(0,.v),(1,.v),(7,.i .i64),(8,.i .i64)]
noncomputable def o3 := ob Tryz.f228 [.r,.l,.r,.l,.l,.r,.r,.r]
def B3 (P : PT) (N2 : NTy k1 Pr) (x0 x1 : Value) (x7 x8 : Int) (H : AHeap) : Prop :=
  N2 x0 x1 x7 (IntKind.i64.wrap (x8 + 1)) H
theorem q3 (P : PT) (N2 : NTy k1 Pr) : QB Tryz.prog T0 19 o3 (En 19 k1 N2) k1 (B3 P N2) := fun _ _ _ _ _ _  => by kernel_rfl
abbrev k2 : Sk := [(5,.i .i64)]
noncomputable def o4 := ob Tryz.f228 [.r,.l,.r,.l,.l,.r,.r,.l,.l,.r,.r,.l,.l]
def B4 (P : PT) (N2 : NTy k1 Pr) (x5 : Int) (H : AHeap) : Prop :=
  P (Value.int .i64 x5) H
theorem q4 (P : PT) (N2 : NTy k1 Pr) : QB Tryz.prog T0 19 o4 (ret P) k2 (B4 P N2) := fun _ _ _  => by kernel_rfl
abbrev k3 : Sk := [(0,.v),(1,.v),(5,.i .i64),(7,.i .i64),(8,.i .i64)]
noncomputable def o5 := ob Tryz.f228 [.r,.l,.r,.l,.l,.r,.r,.l,.l,.r,.l]
def B5 (P : PT) (N2 : NTy k1 Pr) (x0 x1 : Value) (x5 x7 x8 : Int) (H : AHeap) : Prop :=
  idxK x0 x5 2 (fun b1 o2 => ldI .i64 H b1 o2 (fun v3 => ldI .i64 H b1 (o2 + 1) (fun v4 => callV Tryz.prog T0 x1 [(Value.agg ⟨[(Value.int .i64 v3), (Value.int .i64 v4)]⟩)] H (fun v5 H6 => asB v5 (fun v7 => pif v7 (B4 P N2 x5 H6) (B3 P N2 x0 x1 x7 x8 H6))))))
theorem q5 (P : PT) (N2 : NTy k1 Pr) : QB Tryz.prog T0 19 o5 (cnd 16 (En 19 k2 (B4 P N2)) (En 19 k1 (B3 P N2))) k3 (B5 P N2) := fun _ _ _ _ _ _ _  => by kernel_rfl
noncomputable def o6 := ob Tryz.f228 [.r,.l,.r,.l,.l,.r,.r,.l,.l,.l]
def B6 (P : PT) (N2 : NTy k1 Pr) (x0 x1 : Value) (x7 x8 : Int) (H : AHeap) : Prop :=
  B5 P N2 x0 x1 x8 x7 x8 H
theorem q6 (P : PT) (N2 : NTy k1 Pr) : QB Tryz.prog T0 19 o6 (En 19 k3 (B5 P N2)) k1 (B6 P N2) := fun _ _ _ _ _ _  => by kernel_rfl
noncomputable def o7 := ob Tryz.f228 [.r,.l,.r,.l,.l,.l]
def B7 (P : PT) (N2 : NTy k1 Pr) (x0 x1 : Value) (x7 x8 : Int) (H : AHeap) : Prop :=
  pif (decide ((x8 : Int) < x7)) (B6 P N2 x0 x1 x7 x8 H) (B1 P H)
theorem q7 (P : PT) (N2 : NTy k1 Pr) : QB Tryz.prog T0 19 o7 (cnd 9 (En 19 k1 (B6 P N2)) (En 19 k0 (B1 P))) k1 (B7 P N2) := fun _ _ _ _ _ _  => by kernel_rfl
def L2 (P : PT) (x0 x1 : Value) (x7 x8 : Int) (H : AHeap) : Prop :=
  ∃ (I : NTy k1 Pr) (μ : NTy k1 (AHeap → Nat)), I x0 x1 x7 x8 H ∧ ∀ y0 y1 y7 y8 G, I y0 y1 y7 y8 G → B7 P (fun z0 z1 z7 z8 G' => I z0 z1 z7 z8 G' ∧ μ z0 z1 z7 z8 G' < μ y0 y1 y7 y8 G) y0 y1 y7 y8 G
theorem l2 (P : PT) : LQ k1 (L2 P) (B7 P) := fun ⟨_,_,_,_,_⟩ _ ⟨I, μ, h0, hI⟩ => ⟨apT _ I, apT _ μ, h0, fun ⟨_,_,_,_,_⟩ _ h => hI _ _ _ _ _  h⟩
abbrev k4 : Sk := [(0,.v),(1,.v)]
noncomputable def o8 := ob Tryz.f228 [.r,.l,.l]
def B8 (P : PT) (x0 x1 : Value) (H : AHeap) : Prop :=
  lenK x0 (fun n1 => L2 P x0 x1 (n1 : Int) 0 H)
theorem q8 (P : PT) : QB Tryz.prog T0 19 o8 (En 19 k1 (L2 P)) k4 (B8 P) := fun _ _ _ _  => by kernel_rfl
noncomputable def o9 := ob Tryz.f228 [.l]
def B9 (P : PT) (x0 x1 : Value) (H : AHeap) : Prop :=
  B8 P x0 x1 H
theorem q9 (P : PT) : QB Tryz.prog T0 19 o9 (En 19 k4 (B8 P)) k4 (B9 P) := fun _ _ _ _  => by kernel_rfl
noncomputable def code : Code := (.seq (.region 0 ⟨o9⟩ false) (.seq (.seq (.region 1 ⟨o8⟩ false) (.block 0 (.loop (.seq (.region 2 ⟨o7⟩ false) (.seq (.cond (.tmp 9) .skip (.exit 0)) (.seq (.block 1 (.seq (.region 3 ⟨o6⟩ false) (.seq (.region 4 ⟨o5⟩ false) (.cond (.tmp 16) (.seq (.region 5 ⟨o4⟩ false) .ret) .skip)))) (.region 6 ⟨o3⟩ false))))))) (.seq (.region 7 ⟨o1⟩ false) .ret)))
theorem body : Tryz.f228.body = some code := by kernel_rfl
theorem main (P : PT) : ∀ env H, (En 19 k4 (B9 P)) env H → AW Tryz.prog T0 code env H (mkQ (ret P) (fun _ _ _ => False) (ret P)) :=
  (r_seq (rB T0_ok (q9 P)) (r_seq (r_seq (rB T0_ok (q8 P)) (r_block (rL (l2 P) (fun N2 => (r_seq (rB T0_ok (q7 P N2)) (r_seq (r_cond rfl r_skip (r_exit (fun _ _ h => h))) (r_seq (r_block (r_seq (rB T0_ok (q6 P N2)) (r_seq (rB T0_ok (q5 P N2)) (r_cond rfl (r_seq (rB T0_ok (q4 P N2)) r_ret) r_skip)))) (rB T0_ok (q3 P N2))))))))) (r_seq (rB T0_ok (q1 P)) r_ret)))
theorem ac (P : PT) (x0 x1 : Value) (H : AHeap) (h : B9 P x0 x1 H) : AC Tryz.prog T0 228 [x0, x1] H P :=
  r_fn T0_ok (c := code) (n := 19) Tryz.func228 body (by kernel_rfl) (main P) (En_mk (x0, x1, ()) (by kernel_rfl) ⟨by kernel_rfl, by kernel_rfl, trivial⟩ h)

end F228
-- slices.ContainsFunc[[]int,int]
namespace F229
noncomputable def ret (P : PT) : EP := retE T0 9 Tryz.f229 P
abbrev k0 : Sk := [(0,.v),(1,.v)]
noncomputable def o1 := ob Tryz.f229 [.r,.l]
def B1 (P : PT) (x0 x1 : Value) (H : AHeap) : Prop :=
  AC Tryz.prog T0 234 [x0, x1] H (fun v1 H2 => asI .i64 v1 (fun v3 => P (Value.bool (decide ((v3 : Int) ≥ 0))) H2))
theorem q1 (P : PT) : QB Tryz.prog T0 9 o1 (ret P) k0 (B1 P) := fun _ _ _ _  => by kernel_rfl
noncomputable def o2 := ob Tryz.f229 [.l]
def B2 (P : PT) (x0 x1 : Value) (H : AHeap) : Prop :=
  B1 P x0 x1 H
theorem q2 (P : PT) : QB Tryz.prog T0 9 o2 (En 9 k0 (B1 P)) k0 (B2 P) := fun _ _ _ _  => by kernel_rfl
noncomputable def code : Code := (.seq (.region 0 ⟨o2⟩ false) (.seq (.region 1 ⟨o1⟩ false) .ret))
theorem body : Tryz.f229.body = some code := by kernel_rfl
theorem main (P : PT) : ∀ env H, (En 9 k0 (B2 P)) env H → AW Tryz.prog T0 code env H (mkQ (ret P) (fun _ _ _ => False) (ret P)) :=
  (r_seq (rB T0_ok (q2 P)) (r_seq (rB T0_ok (q1 P)) r_ret))
theorem ac (P : PT) (x0 x1 : Value) (H : AHeap) (h : B2 P x0 x1 H) : AC Tryz.prog T0 229 [x0, x1] H P :=
  r_fn T0_ok (c := code) (n := 9) Tryz.func229 body (by kernel_rfl) (main P) (En_mk (x0, x1, ()) (by kernel_rfl) ⟨by kernel_rfl, by kernel_rfl, trivial⟩ h)

end F229
-- loop.example/g01329/impl.areAll[int]$1
namespace F230
noncomputable def ret (P : PT) : EP := retE T0 8 Tryz.f230 P
abbrev k0 : Sk := [(0,.i .i64),(1,.v)]
noncomputable def o1 := ob Tryz.f230 [.r,.l]
def B1 (P : PT) (x0 : Int) (x1 : Value) (H : AHeap) : Prop :=
  asP x1 (fun b1 o2 => ld1 H b1 o2 (fun v3 => callV Tryz.prog T0 v3 [(Value.int .i64 x0)] H (fun v4 H5 => asB v4 (fun v6 => P (Value.bool (!v6)) H5))))
theorem q1 (P : PT) : QB Tryz.prog T0 8 o1 (ret P) k0 (B1 P) := fun _ _ _ _  => by kernel_rfl
noncomputable def o2 := ob Tryz.f230 [.l]
def B2 (P : PT) (x0 : Int) (x1 : Value) (H : AHeap) : Prop :=
  B1 P x0 x1 H
theorem q2 (P : PT) : QB Tryz.prog T0 8 o2 (En 8 k0 (B1 P)) k0 (B2 P) := fun _ _ _ _  => by kernel_rfl
noncomputable def code : Code := (.seq (.region 0 ⟨o2⟩ false) (.seq (.region 1 ⟨o1⟩ false) .ret))
theorem body : Tryz.f230.body = some code := by kernel_rfl
theorem main (P : PT) : ∀ env H, (En 8 k0 (B2 P)) env H → AW Tryz.prog T0 code env H (mkQ (ret P) (fun _ _ _ => False) (ret P)) :=
  (r_seq (rB T0_ok (q2 P)) (r_seq (rB T0_ok (q1 P)) r_ret))
theorem ac (P : PT) (x0 : Int) (x1 : Value) (H : AHeap) (h : B2 P x0 x1 H) : AC Tryz.prog T0 230 [(Value.int .i64 x0), x1] H P :=
  r_fn T0_ok (c := code) (n := 8) Tryz.func230 body (by kernel_rfl) (main P) (En_mk (x0, x1, ()) (by kernel_rfl) ⟨by kernel_rfl, by kernel_rfl, trivial⟩ h)

end F230
end Go.Proofs
