import Derived.Test.YtkmjiikgkhhciaaGreatT
set_option linter.unusedVariables false
set_option maxRecDepth 100000
namespace Go.Proofs
open Go.Abs
-- slices.IndexFunc[[]loop.example/g01329/impl.Edge,loop.example/g01329/impl.Edge]
namespace F228
noncomputable def ret (P : PT) : EP := retE T0 19 Tryz.f228 P
abbrev k0 : Sk := []
noncomputable def o1 := ob Tryz.f228 [.r,.r,.l]
def B1 (P : PT) (H : AHeap) : Prop :=
  P (Value.int .i64 (-1)) H
theorem q1 (P : PT) : QB Tryz.prog T0 19 o1 (ret P) k0 (B1 P) := fun _ _  => by kernel_rfl
abbrev k1 : Sk := [(0,.v),(1,.v),(7,.i .i64),(8,.i .i64)]
noncomputable def o3 := ob Tryz.f228 [.r,.l,.r,.l,.l,.r,.r,.r]
def B3 (P : PT) (N2 : NTy k1 Pr) (x0 x1 : Value) (x7 x8 : Int) (H : AHeap) : Prop :=
  N2 x0 x1 x7 (IntKind.i64.wrap (x8 + 1)) H
theorem q3 (P : PT) (N2 : NTy k1 Pr) : QB Tryz.prog T0 19 o3 (En 19 k1 N2) k1 (B3 P N2) := fun _ _ _ _ _ _  => by kernel_rfl
abbrev k2 : Sk := [(5,.i .i64)]
noncomputable def o4 := ob Tryz.f228 [.r,.l,.r,.l,.l,.r,.r,.l,.l,.r,.r,.l,.l]
def B4 (P : PT) (N2 : NTy k1 Pr) (x5 : Int) (H : AHeap) : Prop :=
  P (Value.int .i64 x5) H
theorem q4 (P : PT) (N2 : NTy k1 Pr) : QB Tryz.prog T0 19 o4 (ret P) k2 (B4 P N2) := fun _ _ _  => by kernel_rfl
abbrev k3 : Sk := [(0,.v),(1,.v),(5,.i .i64),(7,.i .i64),(8,.i .i64)]
noncomputable def o5 := ob Tryz.f228 [.r,.l,.r,.l,.l,.r,.r,.l,.l,.r,.l]
def B5 (P : PT) (N2 : NTy k1 Pr) (x0 x1 : Value) (x5 x7 x8 : Int) (H : AHeap) : Prop :=
  idxK x0 x5 2 (fun b1 o2 => ldI .i64 H b1 o2 (fun v3 => ldI .i64 H b1 (o2 + 1) (fun v4 => callV Tryz.prog T0 x1 [(Value.agg ⟨[(Value.int .i64 v3), (Value.int .i64 v4)]⟩)] H (fun v5 H6 => asB v5 (fun v7 => pif v7 (B4 P N2 x5 H6) (B3 P N2 x0 x1 x7 x8 H6))))))
theorem q5 (P : PT) (N2 : NTy k1 Pr) : QB Tryz.prog T0 19 o5 (cnd 16 (En 19 k2 (B4 P N2)) (En 19 k1 (B3 P N2))) k3 (B5 P N2) := fun _ _ _ _ _ _ _  => by kernel_rfl
noncomputable def o6 := ob Tryz.f228 [.r,.l,.r,.l,.l,.r,.r,.l,.l,.l]
def B6 (P : PT) (N2 : NTy k1 Pr) (x0 x1 : Value) (x7 x8 : Int) (H : AHeap) : Prop :=
  B5 P N2 x0 x1 x8 x7 x8 H
theorem q6 (P : PT) (N2 : NTy k1 Pr) : QB Tryz.prog T0 19 o6 (En 19 k3 (B5 P N2)) k1 (B6 P N2) := fun _ _ _ _ _ _  => by kernel_rfl
noncomputable def o7 := ob Tryz.f228 [.r,.l,.r,.l,.l,.l]
def B7 (P : PT) (N2 : NTy k1 Pr) (x0 x1 : Value) (x7 x8 : Int) (H : AHeap) : Prop :=
  pif (decide ((x8 : Int) < x7)) (B6 P N2 x0 x1 x7 x8 H) (B1 P H)
theorem q7 (P : PT) (N2 : NTy k1 Pr) : QB Tryz.prog T0 19 o7 (cnd 9 (En 19 k1 (B6 P N2)) (En 19 k0 (B1 P))) k1 (B7 P N2) := fun _ _ _ _ _ _  => by kernel_rfl
def L2 (P : PT) (x0 x1 : Value) (x7 x8 : Int) (H : AHeap) : Prop :=
  ∃ (I : NTy k1 Pr) (μ : NTy k1 (AHeap → Nat)), I x0 x1 x7 x8 H ∧ ∀ y0 y1 y7 y8 G, I y0 y1 y7 y8 G → B7 P (fun z0 z1 z7 z8 G' => I z0 z1 z7 z8 G' ∧ μ z0 z1 z7 z8 G' < μ y0 y1 y7 y8 G) y0 y1 y7 y8 G
theorem l2 (P : PT) : LQ k1 (L2 P) (B7 P) := fun ⟨_,_,_,_,_⟩ _ ⟨I, μ, h0, hI⟩ => ⟨apT _ I, apT _ μ, h0, fun ⟨_,_,_,_,_⟩ _ h => hI _ _ _ _ _  h⟩
abbrev k4 : Sk := [(0,.v),(1,.v)]
noncomputable def o8 := ob Tryz.f228 [.r,.l,.l]
def B8 (P : PT) (x0 x1 : Value) (H : AHeap) : Prop :=
  lenK x0 (fun n1 => L2 P x0 x1 (n1 : Int) 0 H)
theorem q8 (P : PT) : QB Tryz.prog T0 19 o8 (En 19 k1 (L2 P)) k4 (B8 P) := fun _ _ _ _  => by kernel_rfl
noncomputable def o9 := ob Tryz.f228 [.l]
def B9 (P : PT) (x0 x1 : Value) (H : AHeap) : Prop :=
  B8 P x0 x1 H
theorem q9 (P : PT) : QB Tryz.prog T0 19 o9 (En 19 k4 (B8 P)) k4 (B9 P) := fun _ _ _ _  => by kernel_rfl
noncomputable def code : Code := (.seq (.region 0 ⟨o9⟩ false) (.seq (.seq (.region 1 ⟨o8⟩ false) (.block 0 (.loop (.seq (.region 2 ⟨o7⟩ false) (.seq (.cond (.tmp 9) .skip (.exit 0)) (.seq (.block 1 (.seq (.region 3 ⟨o6⟩ false) (.seq (.region 4 ⟨o5⟩ false) (.cond (.tmp 16) (.seq (.region 5 ⟨o4⟩ false) .ret) .skip)))) (.region 6 ⟨o3⟩ false))))))) (.seq (.region 7 ⟨o1⟩ false) .ret)))
theorem body : Tryz.f228.body = some code := by kernel_rfl
theorem main (P : PT) : ∀ env H, (En 19 k4 (B9 P)) env H → AW Tryz.prog T0 code env H (mkQ (ret P) (fun _ _ _ => False) (ret P)) :=
  (r_seq (rB T0_ok (q9 P)) (r_seq (r_seq (rB T0_ok (q8 P)) (r_block (rL (l2 P) (fun N2 => (r_seq (rB T0_ok (q7 P N2)) (r_seq (r_cond rfl r_skip (r_exit (fun _ _ h => h))) (r_seq (r_block (r_seq (rB T0_ok (q6 P N2)) (r_seq (rB T0_ok (q5 P N2)) (r_cond rfl (r_seq (rB T0_ok (q4 P N2)) r_ret) r_skip)))) (rB T0_ok (q3 P N2))))))))) (r_seq (rB T0_ok (q1 P)) r_ret)))
theorem ac (P : PT) (x0 x1 : Value) (H : AHeap) (h : B9 P x0 x1 H) : AC Tryz.prog T0 228 [x0, x1] H P :=
  r_fn T0_ok (c := code) (n := 19) Tryz.func228 body (by kernel_rfl) (main P) (En_mk (x0, x1, ()) (by kernel_rfl) ⟨by kernel_rfl, by kernel_rfl, trivial⟩ h)

end F228
-- slices.ContainsFunc[[]int,int]
namespace F229
noncomputable def ret (P : PT) : EP := retE T0 9 Tryz.f229 P
abbrev k0 : Sk := [(0,.v),(1,.v)]
noncomputable def o1 := ob Tryz.f229 [.r,.l]
def B1 (P : PT) (x0 x1 : Value) (H : AHeap) : Prop :=
  AC Tryz.prog T0 234 [x0, x1] H (fun v1 H2 => asI .i64 v1 (fun v3 => P (Value.bool (decide ((v3 : Int) ≥ 0))) H2))
theorem q1 (P : PT) : QB Tryz.prog T0 9 o1 (ret P) k0 (B1 P) := fun _ _ _ _  => by kernel_rfl
noncomputable def o2 := ob Tryz.f229 [.l]
def B2 (P : PT) (x0 x1 : Value) (H : AHeap) : Prop :=
  B1 P x0 x1 H
theorem q2 (P : PT) : QB Tryz.prog T0 9 o2 (En 9 k0 (B1 P)) k0 (B2 P) := fun _ _ _ _  => by kernel_rfl
noncomputable def code : Code := (.seq (.region 0 ⟨o2⟩ false) (.seq (.region 1 ⟨o1⟩ false) .ret))
theorem body : Tryz.f229.body = some code := by kernel_rfl
theorem main (P : PT) : ∀ env H, (En 9 k0 (B2 P)) env H → AW Tryz.prog T0 code env H (mkQ (ret P) (fun _ _ _ => False) (ret P)) :=
  (r_seq (rB T0_ok (q2 P)) (r_seq (rB T0_ok (q1 P)) r_ret))
theorem ac (P : PT) (x0 x1 : Value) (H : AHeap) (h : B2 P x0 x1 H) : AC Tryz.prog T0 229 [x0, x1] H P :=
  r_fn T0_ok (c := code) (n := 9) Tryz.func229 body (by kernel_rfl) (main P) (En_mk (x0, x1, ()) (by kernel_rfl) ⟨by kernel_rfl, by kernel_rfl, trivial⟩ h)

end F229
-- loop.example/g01329/impl.areAll[int]$1
namespace F230
noncomputable def ret (P : PT) : EP := retE T0 8 Tryz.f230 P
abbrev k0 : Sk := [(0,.i .i64),(1,.v)]
noncomputable def o1 := ob Tryz.f230 [.r,.l]
def B1 (P : PT) (x0 : Int) (x1 : Value) (H : AHeap) : Prop :=
  asP x1 (fun b1 o2 => ld1 H b1 o2 (fun v3 => callV Tryz.prog T0 v3 [(Value.int .i64 x0)] H (fun v4 H5 => asB v4 (fun v6 => P (Value.bool (!v6)) H5))))
theorem q1 (P : PT) : QB Tryz.prog T0 8 o1 (ret P) k0 (B1 P) := fun _ _ _ _  => by kernel_rfl
noncomputable def o2 := ob Tryz.f230 [.l]
def B2 (P : PT) (x0 : Int) (x1 : Value) (H : AHeap) : Prop :=
  B1 P x0 x1 H
theorem q2 (P : PT) : QB Tryz.prog T0 8 o2 (En 8 k0 (B1 P)) k0 (B2 P) := fun _ _ _ _  => by kernel_rfl
noncomputable def code : Code := (.seq (.region 0 ⟨o2⟩ false) (.seq (.region 1 ⟨o1⟩ false) .ret))
theorem body : Tryz.f230.body = some code := by kernel_rfl
theorem main (P : PT) : ∀ env H, (En 8 k0 (B2 P)) env H → AW Tryz.prog T0 code env H (mkQ (ret P) (fun _ _ _ => False) (ret P)) :=
  (r_seq (rB T0_ok (q2 P)) (r_seq (rB T0_ok (q1 P)) r_ret))
theorem ac (P : PT) (x0 : Int) (x1 : Value) (H : AHeap) (h : B2 P x0 x1 H) : AC Tryz.prog T0 230 [(Value.int .i64 x0), x1] H P :=
  r_fn T0_ok (c := code) (n := 8) Tryz.func230 body (by kernel_rfl) (main P) (En_mk (x0, x1, ()) (by kernel_rfl) ⟨by kernel_rfl, by kernel_rfl, trivial⟩ h)

end F230
-- math/bits.Mul64
namespace F232
noncomputable def ret (P : PT) : EP := retE T0 51 Tryz.f232 P
abbrev k0 : Sk := [(0,.i .u64),(1,.i .u64),(4,.i .u64)]
noncomputable def o1 := ob Tryz.f232 [.r,.r,.r,.r,.r,.r,.r,.r,.r,.r,.r,.l]
def B1 (P : PT) (x0 x1 x4 : Int) (H : AHeap) : Prop :=
  P (Value.tuple ⟨[(Value.int .u64 x4), (Value.int .u64 (IntKind.u64.wrap (x0 * x1)))]⟩) H
theorem q1 (P : PT) : QB Tryz.prog T0 51 o1 (ret P) k0 (B1 P) := fun _ _ _ _ _  => by kernel_rfl
abbrev k1 : Sk := [(0,.i .u64),(1,.i .u64),(7,.i .u64),(9,.i .u64),(12,.i .u64),(13,.i .u64)]
noncomputable def o2 := ob Tryz.f232 [.r,.r,.r,.r,.r,.r,.r,.r,.r,.r,.l]
def B2 (P : PT) (x0 x1 x7 x9 x12 x13 : Int) (H : AHeap) : Prop :=
  ((0 : Int) ≤ 32) ∧ (B1 P x0 x1 (IntKind.u64.wrap ((IntKind.u64.wrap ((IntKind.u64.wrap (x7 * x9)) + x13)) + (Int.fdiv x12 (2 ^ (min (Int.toNat 32) 64))))) H)
theorem q2 (P : PT) : QB Tryz.prog T0 51 o2 (En 51 k0 (B1 P)) k1 (B2 P) := fun _ _ _ _ _ _ _ _  => by kernel_rfl
abbrev k2 : Sk := [(0,.i .u64),(1,.i .u64),(6,.i .u64),(7,.i .u64),(9,.i .u64),(12,.i .u64),(13,.i .u64)]
noncomputable def o3 := ob Tryz.f232 [.r,.r,.r,.r,.r,.r,.r,.r,.r,.l]
def B3 (P : PT) (x0 x1 x6 x7 x9 x12 x13 : Int) (H : AHeap) : Prop :=
  B2 P x0 x1 x7 x9 (IntKind.u64.wrap (x12 + (IntKind.u64.wrap (x6 * x9)))) x13 H
theorem q3 (P : PT) : QB Tryz.prog T0 51 o3 (En 51 k1 (B2 P)) k2 (B3 P) := fun _ _ _ _ _ _ _ _ _  => by kernel_rfl
abbrev k3 : Sk := [(0,.i .u64),(1,.i .u64),(6,.i .u64),(7,.i .u64),(9,.i .u64),(11,.i .u64),(12,.i .u64)]
noncomputable def o4 := ob Tryz.f232 [.r,.r,.r,.r,.r,.r,.r,.r,.l]
def B4 (P : PT) (x0 x1 x6 x7 x9 x11 x12 : Int) (H : AHeap) : Prop :=
  ((0 : Int) ≤ 32) ∧ (B3 P x0 x1 x6 x7 x9 x12 (Int.fdiv x11 (2 ^ (min (Int.toNat 32) 64))) H)
theorem q4 (P : PT) : QB Tryz.prog T0 51 o4 (En 51 k2 (B3 P)) k3 (B4 P) := fun _ _ _ _ _ _ _ _ _  => by kernel_rfl
abbrev k4 : Sk := [(0,.i .u64),(1,.i .u64),(6,.i .u64),(7,.i .u64),(9,.i .u64),(11,.i .u64)]
noncomputable def o5 := ob Tryz.f232 [.r,.r,.r,.r,.r,.r,.r,.l]
def B5 (P : PT) (x0 x1 x6 x7 x9 x11 : Int) (H : AHeap) : Prop :=
  B4 P x0 x1 x6 x7 x9 x11 (IntKind.u64.wrap (BitVec.ofInt 64 x11 &&& BitVec.ofInt 64 4294967295).toNat) H
theorem q5 (P : PT) : QB Tryz.prog T0 51 o5 (En 51 k3 (B4 P)) k4 (B5 P) := fun _ _ _ _ _ _ _ _  => by kernel_rfl
abbrev k5 : Sk := [(0,.i .u64),(1,.i .u64),(6,.i .u64),(7,.i .u64),(8,.i .u64),(9,.i .u64),(10,.i .u64)]
noncomputable def o6 := ob Tryz.f232 [.r,.r,.r,.r,.r,.r,.l]
def B6 (P : PT) (x0 x1 x6 x7 x8 x9 x10 : Int) (H : AHeap) : Prop :=
  ((0 : Int) ≤ 32) ∧ (B5 P x0 x1 x6 x7 x9 (IntKind.u64.wrap ((IntKind.u64.wrap (x7 * x8)) + (Int.fdiv x10 (2 ^ (min (Int.toNat 32) 64))))) H)
theorem q6 (P : PT) : QB Tryz.prog T0 51 o6 (En 51 k4 (B5 P)) k5 (B6 P) := fun _ _ _ _ _ _ _ _ _  => by kernel_rfl
abbrev k6 : Sk := [(0,.i .u64),(1,.i .u64),(6,.i .u64),(7,.i .u64),(8,.i .u64),(9,.i .u64)]
noncomputable def o7 := ob Tryz.f232 [.r,.r,.r,.r,.r,.l]
def B7 (P : PT) (x0 x1 x6 x7 x8 x9 : Int) (H : AHeap) : Prop :=
  B6 P x0 x1 x6 x7 x8 x9 (IntKind.u64.wrap (x6 * x8)) H
theorem q7 (P : PT) : QB Tryz.prog T0 51 o7 (En 51 k5 (B6 P)) k6 (B7 P) := fun _ _ _ _ _ _ _ _  => by kernel_rfl
abbrev k7 : Sk := [(0,.i .u64),(1,.i .u64),(6,.i .u64),(7,.i .u64),(8,.i .u64)]
noncomputable def o8 := ob Tryz.f232 [.r,.r,.r,.r,.l]
def B8 (P : PT) (x0 x1 x6 x7 x8 : Int) (H : AHeap) : Prop :=
  ((0 : Int) ≤ 32) ∧ (B7 P x0 x1 x6 x7 x8 (Int.fdiv x1 (2 ^ (min (Int.toNat 32) 64))) H)
theorem q8 (P : PT) : QB Tryz.prog T0 51 o8 (En 51 k6 (B7 P)) k7 (B8 P) := fun _ _ _ _ _ _ _  => by kernel_rfl
abbrev k8 : Sk := [(0,.i .u64),(1,.i .u64),(6,.i .u64),(7,.i .u64)]
noncomputable def o9 := ob Tryz.f232 [.r,.r,.r,.l]
def B9 (P : PT) (x0 x1 x6 x7 : Int) (H : AHeap) : Prop :=
  B8 P x0 x1 x6 x7 (IntKind.u64.wrap (BitVec.ofInt 64 x1 &&& BitVec.ofInt 64 4294967295).toNat) H
theorem q9 (P : PT) : QB Tryz.prog T0 51 o9 (En 51 k7 (B8 P)) k8 (B9 P) := fun _ _ _ _ _ _  => by kernel_rfl
abbrev k9 : Sk := [(0,.i .u64),(1,.i .u64),(6,.i .u64)]
noncomputable def o10 := ob Tryz.f232 [.r,.r,.l]
def B10 (P : PT) (x0 x1 x6 : Int) (H : AHeap) : Prop :=
  ((0 : Int) ≤ 32) ∧ (B9 P x0 x1 x6 (Int.fdiv x0 (2 ^ (min (Int.toNat 32) 64))) H)
theorem q10 (P : PT) : QB Tryz.prog T0 51 o10 (En 51 k8 (B9 P)) k9 (B10 P) := fun _ _ _ _ _  => by kernel_rfl
abbrev k10 : Sk := [(0,.i .u64),(1,.i .u64)]
noncomputable def o11 := ob Tryz.f232 [.r,.l]
def B11 (P : PT) (x0 x1 : Int) (H : AHeap) : Prop :=
  B10 P x0 x1 (IntKind.u64.wrap (BitVec.ofInt 64 x0 &&& BitVec.ofInt 64 4294967295).toNat) H
theorem q11 (P : PT) : QB Tryz.prog T0 51 o11 (En 51 k9 (B10 P)) k10 (B11 P) := fun _ _ _ _  => by kernel_rfl
noncomputable def o12 := ob Tryz.f232 [.l]
def B12 (P : PT) (x0 x1 : Int) (H : AHeap) : Prop :=
  B11 P x0 x1 H
theorem q12 (P : PT) : QB Tryz.prog T0 51 o12 (En 51 k10 (B11 P)) k10 (B12 P) := fun _ _ _ _  => by kernel_rfl
noncomputable def code : Code := (.seq (.region 0 ⟨o12⟩ false) (.seq (.region 1 ⟨o11⟩ false) (.seq (.region 2 ⟨o10⟩ false) (.seq (.region 3 ⟨o9⟩ false) (.seq (.region 4 ⟨o8⟩ false) (.seq (.region 5 ⟨o7⟩ false) (.seq (.region 6 ⟨o6⟩ false) (.seq (.region 7 ⟨o5⟩ false) (.seq (.region 8 ⟨o4⟩ false) (.seq (.region 9 ⟨o3⟩ false) (.seq (.region 10 ⟨o2⟩ false) (.seq (.region 11 ⟨o1⟩ false) .ret))))))))))))
theorem body : Tryz.f232.body = some code := by kernel_rfl
theorem main (P : PT) : ∀ env H, (En 51 k10 (B12 P)) env H → AW Tryz.prog T0 code env H (mkQ (ret P) (fun _ _ _ => False) (ret P)) :=
  (r_seq (rB T0_ok (q12 P)) (r_seq (rB T0_ok (q11 P)) (r_seq (rB T0_ok (q10 P)) (r_seq (rB T0_ok (q9 P)) (r_seq (rB T0_ok (q8 P)) (r_seq (rB T0_ok (q7 P)) (r_seq (rB T0_ok (q6 P)) (r_seq (rB T0_ok (q5 P)) (r_seq (rB T0_ok (q4 P)) (r_seq (rB T0_ok (q3 P)) (r_seq (rB T0_ok (q2 P)) (r_seq (rB T0_ok (q1 P)) r_ret))))))))))))
theorem ac (P : PT) (x0 x1 : Int) (H : AHeap) (h : B12 P x0 x1 H) : AC Tryz.prog T0 232 [(Value.int .u64 x0), (Value.int .u64 x1)] H P :=
  r_fn T0_ok (c := code) (n := 51) Tryz.func232 body (by kernel_rfl) (main P) (En_mk (x0, x1, ()) (by kernel_rfl) ⟨by kernel_rfl, by kernel_rfl, trivial⟩ h)

end F232
-- slices.IndexFunc[[]int,int]
namespace F234
noncomputable def ret (P : PT) : EP := retE T0 19 Tryz.f234 P
abbrev k0 : Sk := []
noncomputable def o1 := ob Tryz.f234 [.r,.r,.l]
def B1 (P : PT) (H : AHeap) : Prop :=
  P (Value.int .i64 (-1)) H
theorem q1 (P : PT) : QB Tryz.prog T0 19 o1 (ret P) k0 (B1 P) := fun _ _  => by kernel_rfl
abbrev k1 : Sk := [(0,.v),(1,.v),(7,.i .i64),(8,.i .i64)]
noncomputable def o3 := ob Tryz.f234 [.r,.l,.r,.l,.l,.r,.r,.r]
def B3 (P : PT) (N2 : NTy k1 Pr) (x0 x1 : Value) (x7 x8 : Int) (H : AHeap) : Prop :=
  N2 x0 x1 x7 (IntKind.i64.wrap (x8 + 1)) H
theorem q3 (P : PT) (N2 : NTy k1 Pr) : QB Tryz.prog T0 19 o3 (En 19 k1 N2) k1 (B3 P N2) := fun _ _ _ _ _ _  => by kernel_rfl
abbrev k2 : Sk := [(5,.i .i64)]
noncomputable def o4 := ob Tryz.f234 [.r,.l,.r,.l,.l,.r,.r,.l,.l,.r,.r,.l,.l]
def B4 (P : PT) (N2 : NTy k1 Pr) (x5 : Int) (H : AHeap) : Prop :=
  P (Value.int .i64 x5) H
theorem q4 (P : PT) (N2 : NTy k1 Pr) : QB Tryz.prog T0 19 o4 (ret P) k2 (B4 P N2) := fun _ _ _  => by kernel_rfl
abbrev k3 : Sk := [(0,.v),(1,.v),(5,.i .i64),(7,.i .i64),(8,.i .i64)]
noncomputable def o5 := ob Tryz.f234 [.r,.l,.r,.l,.l,.r,.r,.l,.l,.r,.l]
def B5 (P : PT) (N2 : NTy k1 Pr) (x0 x1 : Value) (x5 x7 x8 : Int) (H : AHeap) : Prop :=
  idxK x0 x5 1 (fun b1 o2 => ldI .i64 H b1 o2 (fun v3 => callV Tryz.prog T0 x1 [(Value.int .i64 v3)] H (fun v4 H5 => asB v4 (fun v6 => pif v6 (B4 P N2 x5 H5) (B3 P N2 x0 x1 x7 x8 H5)))))
theorem q5 (P : PT) (N2 : NTy k1 Pr) : QB Tryz.prog T0 19 o5 (cnd 16 (En 19 k2 (B4 P N2)) (En 19 k1 (B3 P N2))) k3 (B5 P N2) := fun _ _ _ _ _ _ _  => by kernel_rfl
noncomputable def o6 := ob Tryz.f234 [.r,.l,.r,.l,.l,.r,.r,.l,.l,.l]
def B6 (P : PT) (N2 : NTy k1 Pr) (x0 x1 : Value) (x7 x8 : Int) (H : AHeap) : Prop :=
  B5 P N2 x0 x1 x8 x7 x8 H
theorem q6 (P : PT) (N2 : NTy k1 Pr) : QB Tryz.prog T0 19 o6 (En 19 k3 (B5 P N2)) k1 (B6 P N2) := fun _ _ _ _ _ _  => by kernel_rfl
noncomputable def o7 := ob Tryz.f234 [.r,.l,.r,.l,.l,.l]
def B7 (P : PT) (N2 : NTy k1 Pr) (x0 x1 : Value) (x7 x8 : Int) (H : AHeap) : Prop :=
  pif (decide ((x8 : Int) < x7)) (B6 P N2 x0 x1 x7 x8 H) (B1 P H)
theorem q7 (P : PT) (N2 : NTy k1 Pr) : QB Tryz.prog T0 19 o7 (cnd 9 (En 19 k1 (B6 P N2)) (En 19 k0 (B1 P))) k1 (B7 P N2) := fun _ _ _ _ _ _  => by kernel_rfl
def L2 (P : PT) (x0 x1 : Value) (x7 x8 : Int) (H : AHeap) : Prop :=
  ∃ (I : NTy k1 Pr) (μ : NTy k1 (AHeap → Nat)), I x0 x1 x7 x8 H ∧ ∀ y0 y1 y7 y8 G, I y0 y1 y7 y8 G → B7 P (fun z0 z1 z7 z8 G' => I z0 z1 z7 z8 G' ∧ μ z0 z1 z7 z8 G' < μ y0 y1 y7 y8 G) y0 y1 y7 y8 G
theorem l2 (P : PT) : LQ k1 (L2 P) (B7 P) := fun ⟨_,_,_,_,_⟩ _ ⟨I, μ, h0, hI⟩ => ⟨apT _ I, apT _ μ, h0, fun ⟨_,_,_,_,_⟩ _ h => hI _ _ _ _ _  h⟩
abbrev k4 : Sk := [(0,.v),(1,.v)]
noncomputable def o8 := ob Tryz.f234 [.r,.l,.l]
def B8 (P : PT) (x0 x1 : Value) (H : AHeap) : Prop :=
  lenK x0 (fun n1 => L2 P x0 x1 (n1 : Int) 0 H)
theorem q8 (P : PT) : QB Tryz.prog T0 19 o8 (En 19 k1 (L2 P)) k4 (B8 P) := fun _ _ _ _  => by kernel_rfl
noncomputable def o9 := ob Tryz.f234 [.l]
def B9 (P : PT) (x0 x1 : Value) (H : AHeap) : Prop :=
  B8 P x0 x1 H
theorem q9 (P : PT) : QB Tryz.prog T0 19 o9 (En 19 k4 (B8 P)) k4 (B9 P) := fun _ _ _ _  => by kernel_rfl
noncomputable def code : Code := (.seq (.region 0 ⟨o9⟩ false) (.seq (.seq (.region 1 ⟨o8⟩ false) (.block 0 (.loop (.seq (.region 2 ⟨o7⟩ false) (.seq (.cond (.tmp 9) .skip (.exit 0)) (.seq (.block 1 (.seq (.region 3 ⟨o6⟩ false) (.seq (.region 4 ⟨o5⟩ false) (.cond (.tmp 16) (.seq (.region 5 ⟨o4⟩ false) .ret) .skip)))) (.region 6 ⟨o3⟩ false))))))) (.seq (.region 7 ⟨o1⟩ false) .ret)))
theorem body : Tryz.f234.body = some code := by kernel_rfl
theorem main (P : PT) : ∀ env H, (En 19 k4 (B9 P)) env H → AW Tryz.prog T0 code env H (mkQ (ret P) (fun _ _ _ => False) (ret P)) :=
  (r_seq (rB T0_ok (q9 P)) (r_seq (r_seq (rB T0_ok (q8 P)) (r_block (rL (l2 P) (fun N2 => (r_seq (rB T0_ok (q7 P N2)) (r_seq (r_cond rfl r_skip (r_exit (fun _ _ h => h))) (r_seq (r_block (r_seq (rB T0_ok (q6 P N2)) (r_seq (rB T0_ok (q5 P N2)) (r_cond rfl (r_seq (rB T0_ok (q4 P N2)) r_ret) r_skip)))) (rB T0_ok (q3 P N2))))))))) (r_seq (rB T0_ok (q1 P)) r_ret)))
theorem ac (P : PT) (x0 x1 : Value) (H : AHeap) (h : B9 P x0 x1 H) : AC Tryz.prog T0 234 [x0, x1] H P :=
  r_fn T0_ok (c := code) (n := 19) Tryz.func234 body (by kernel_rfl) (main P) (En_mk (x0, x1, ()) (by kernel_rfl) ⟨by kernel_rfl, by kernel_rfl, trivial⟩ h)

end F234
end Go.Proofs
