import Derived.Test.YtfcflpcmjlbedaaDoorT
set_option linter.unusedVariables false
set_option maxRecDepth 100000
namespace Go.Proofs
open Go.Abs
-- loop.example/g01329/impl.isCubic$1
namespace F84
noncomputable def ret (P : PT) : EP := retE T0 5 Tryd.f84 P
abbrev k0 : Sk := [(0,.i .i64)]
noncomputable def o1 := ob Tryd.f84 [.r,.l]
def B1 (P : PT) (x0 : Int) (H : AHeap) : Prop :=
  P (Value.bool ((x0 : Int) == 3)) H
theorem q1 (P : PT) : QB Tryd.prog T0 5 o1 (ret P) k0 (B1 P) := fun _ _ _  => by kernel_rfl
noncomputable def o2 := ob Tryd.f84 [.l]
def B2 (P : PT) (x0 : Int) (H : AHeap) : Prop :=
  B1 P x0 H
theorem q2 (P : PT) : QB Tryd.prog T0 5 o2 (En 5 k0 (B1 P)) k0 (B2 P) := fun _ _ _  => by kernel_rfl
noncomputable def code : Code := (.seq (.region 0 ⟨o2⟩ false) (.seq (.region 1 ⟨o1⟩ false) .ret))
theorem body : Tryd.f84.body = some code := by kernel_rfl
theorem main (P : PT) : ∀ env H, (En 5 k0 (B2 P)) env H → AW Tryd.prog T0 code env H (mkQ (ret P) (fun _ _ _ => False) (ret P)) :=
  (r_seq (rB T0_ok (q2 P)) (r_seq (rB T0_ok (q1 P)) r_ret))
theorem ac (P : PT) (x0 : Int) (H : AHeap) (h : B2 P x0 H) : AC Tryd.prog T0 84 [(Value.int .i64 x0)] H P :=
  r_fn T0_ok (c := code) (n := 5) Tryd.func84 body (by kernel_rfl) (main P) (En_mk (x0, ()) (by kernel_rfl) ⟨by kernel_rfl, trivial⟩ h)

end F84
-- slices.IndexFunc[[]loop.example/g01329/impl.Edge,loop.example/g01329/impl.Edge]
namespace F87
noncomputable def ret (P : PT) : EP := retE T0 19 Tryd.f87 P
abbrev k0 : Sk := []
noncomputable def o1 := ob Tryd.f87 [.r,.r,.l]
def B1 (P : PT) (H : AHeap) : Prop :=
  P (Value.int .i64 (-1)) H
theorem q1 (P : PT) : QB Tryd.prog T0 19 o1 (ret P) k0 (B1 P) := fun _ _  => by kernel_rfl
abbrev k1 : Sk := [(0,.v),(1,.v),(7,.i .i64),(8,.i .i64)]
noncomputable def o3 := ob Tryd.f87 [.r,.l,.r,.l,.l,.r,.r,.r]
def B3 (P : PT) (N2 : NTy k1 Pr) (x0 x1 : Value) (x7 x8 : Int) (H : AHeap) : Prop :=
  N2 x0 x1 x7 (IntKind.i64.wrap (x8 + 1)) H
theorem q3 (P : PT) (N2 : NTy k1 Pr) : QB Tryd.prog T0 19 o3 (En 19 k1 N2) k1 (B3 P N2) := fun _ _ _ _ _ _  => by kernel_rfl
abbrev k2 : Sk := [(5,.i .i64)]
noncomputable def o4 := ob Tryd.f87 [.r,.l,.r,.l,.l,.r,.r,.l,.l,.r,.r,.l,.l]
def B4 (P : PT) (N2 : NTy k1 Pr) (x5 : Int) (H : AHeap) : Prop :=
  P (Value.int .i64 x5) H
theorem q4 (P : PT) (N2 : NTy k1 Pr) : QB Tryd.prog T0 19 o4 (ret P) k2 (B4 P N2) := fun _ _ _  => by kernel_rfl
abbrev k3 : Sk := [(0,.v),(1,.v),(5,.i .i64),(7,.i .i64),(8,.i .i64)]
noncomputable def o5 := ob Tryd.f87 [.r,.l,.r,.l,.l,.r,.r,.l,.l,.r,.l]
def B5 (P : PT) (N2 : NTy k1 Pr) (x0 x1 : Value) (x5 x7 x8 : Int) (H : AHeap) : Prop :=
  idxK x0 x5 2 (fun b1 o2 => ldI .i64 H b1 o2 (fun v3 => ldI .i64 H b1 (o2 + 1) (fun v4 => callV Tryd.prog T0 x1 [(Value.agg ⟨[(Value.int .i64 v3), (Value.int .i64 v4)]⟩)] H (fun v5 H6 => asB v5 (fun v7 => pif v7 (B4 P N2 x5 H6) (B3 P N2 x0 x1 x7 x8 H6))))))
theorem q5 (P : PT) (N2 : NTy k1 Pr) : QB Tryd.prog T0 19 o5 (cnd 16 (En 19 k2 (B4 P N2)) (En 19 k1 (B3 P N2))) k3 (B5 P N2) := fun _ _ _ _ _ _ _  => by kernel_rfl
noncomputable def o6 := ob Tryd.f87 [.r,.l,.r,.l,.l,.r,.r,.l,.l,.l]
def B6 (P : PT) (N2 : NTy k1 Pr) (x0 x1 : Value) (x7 x8 : Int) (H : AHeap) : Prop :=
  B5 P N2 x0 x1 x8 x7 x8 H
theorem q6 (P : PT) (N2 : NTy k1 Pr) : QB Tryd.prog T0 19 o6 (En 19 k3 (B5 P N2)) k1 (B6 P N2) := fun _ _ _ _ _ _  => by kernel_rfl
noncomputable def o7 := ob Tryd.f87 [.r,.l,.r,.l,.l,.l]
def B7 (P : PT) (N2 : NTy k1 Pr) (x0 x1 : Value) (x7 x8 : Int) (H : AHeap) : Prop :=
  pif (decide ((x8 : Int) < x7)) (B6 P N2 x0 x1 x7 x8 H) (B1 P H)
theorem q7 (P : PT) (N2 : NTy k1 Pr) : QB Tryd.prog T0 19 o7 (cnd 9 (En 19 k1 (B6 P N2)) (En 19 k0 (B1 P))) k1 (B7 P N2) := fun _ _ _ _ _ _  => by kernel_rfl
def L2 (P : PT) (x0 x1 : Value) (x7 x8 : Int) (H : AHeap) : Prop :=
  ∃ (I : NTy k1 Pr) (μ : NTy k1 (AHeap → Nat)), I x0 x1 x7 x8 H ∧ ∀ y0 y1 y7 y8 G, I y0 y1 y7 y8 G → B7 P (fun z0 z1 z7 z8 G' => I z0 z1 z7 z8 G' ∧ μ z0 z1 z7 z8 G' < μ y0 y1 y7 y8 G) y0 y1 y7 y8 G
theorem l2 (P : PT) : LQ k1 (L2 P) (B7 P) := fun ⟨_,_,_,_,_⟩ _ ⟨I, μ, h0, hI⟩ => ⟨apT _ I, apT _ μ, h0, fun ⟨_,_,_,_,_⟩ _ h => hI _ _ _ _ _  h⟩
abbrev k4 : Sk := [(0,.v),(1,.v)]
noncomputable def o8 := ob Tryd.f87 [.r,.l,.l]
def B8 (P : PT) (x0 x1 : Value) (H : AHeap) : Prop :=
  lenK x0 (fun n1 => L2 P x0 x1 (n1 : Int) 0 H)
theorem q8 (P : PT) : QB Tryd.prog T0 19 o8 (En 19 k1 (L2 P)) k4 (B8 P) := fun _ _ _ _  => by kernel_rfl
noncomputable def o9 := ob Tryd.f87 [.l]
def B9 (P : PT) (x0 x1 : Value) (H : AHeap) : Prop :=
  B8 P x0 x1 H
theorem q9 (P : PT) : QB Tryd.prog T0 19 o9 (En 19 k4 (B8 P)) k4 (B9 P) := fun _ _ _ _  => by kernel_rfl
noncomputable def code : Code := (.seq (.region 0 ⟨o9⟩ false) (.seq (.seq (.region 1 ⟨o8⟩ false) (.block 0 (.loop (.seq (.region 2 ⟨o7⟩ false) (.seq (.cond (.tmp 9) .skip (.exit 0)) (.seq (.block 1 (.seq (.region 3 ⟨o6⟩ false) (.seq (.region 4 ⟨o5⟩ false) (.cond (.tmp 16) (.seq (.region 5 ⟨o4⟩ false) .ret) .skip)))) (.region 6 ⟨o3⟩ false))))))) (.seq (.region 7 ⟨o1⟩ false) .ret)))
theorem body : Tryd.f87.body = some code := by kernel_rfl
theorem main (P : PT) : ∀ env H, (En 19 k4 (B9 P)) env H → AW Tryd.prog T0 code env H (mkQ (ret P) (fun _ _ _ => False) (ret P)) :=
  (r_seq (rB T0_ok (q9 P)) (r_seq (r_seq (rB T0_ok (q8 P)) (r_block (rL (l2 P) (fun N2 => (r_seq (rB T0_ok (q7 P N2)) (r_seq (r_cond rfl r_skip (r_exit (fun _ _ h => h))) (r_seq (r_block (r_seq (rB T0_ok (q6 P N2)) (r_seq (rB T0_ok (q5 P N2)) (r_cond rfl (r_seq (rB T0_ok (q4 P N2)) r_ret) r_skip)))) (rB T0_ok (q3 P N2))))))))) (r_seq (rB T0_ok (q1 P)) r_ret)))
theorem ac (P : PT) (x0 x1 : Value) (H : AHeap) (h : B9 P x0 x1 H) : AC Tryd.prog T0 87 [x0, x1] H P :=
  r_fn T0_ok (c := code) (n := 19) Tryd.func87 body (by kernel_rfl) (main P) (En_mk (x0, x1, ()) (by kernel_rfl) ⟨by kernel_rfl, by kernel_rfl, trivial⟩ h)

end F87
-- cmp.Compare[int64]
namespace F88
noncomputable def ret (P : PT) : EP := retE T0 20 Tryd.f88 P
abbrev k0 : Sk := []
noncomputable def o1 := ob Tryd.f88 [.r,.r,.r,.r,.r,.r,.r,.l]
def B1 (P : PT) (H : AHeap) : Prop :=
  P (Value.int .i64 0) H
theorem q1 (P : PT) : QB Tryd.prog T0 20 o1 (ret P) k0 (B1 P) := fun _ _  => by kernel_rfl
noncomputable def o2 := ob Tryd.f88 [.r,.r,.r,.r,.r,.r,.l,.r,.l,.l]
def B2 (P : PT) (H : AHeap) : Prop :=
  P (Value.int .i64 1) H
theorem q2 (P : PT) : QB Tryd.prog T0 20 o2 (ret P) k0 (B2 P) := fun _ _  => by kernel_rfl
abbrev k1 : Sk := [(0,.i .i64),(1,.i .i64)]
noncomputable def o3 := ob Tryd.f88 [.r,.r,.r,.r,.r,.r,.l,.l]
def B3 (P : PT) (x0 x1 : Int) (H : AHeap) : Prop :=
  pif (decide ((x0 : Int) > x1)) (B2 P H) (B1 P H)
theorem q3 (P : PT) : QB Tryd.prog T0 20 o3 (cnd 19 (En 20 k0 (B2 P)) (En 20 k0 (B1 P))) k1 (B3 P) := fun _ _ _ _  => by kernel_rfl
noncomputable def o4 := ob Tryd.f88 [.r,.r,.r,.r,.r,.l,.r,.l,.l]
def B4 (P : PT) (H : AHeap) : Prop :=
  P (Value.int .i64 (-1)) H
theorem q4 (P : PT) : QB Tryd.prog T0 20 o4 (ret P) k0 (B4 P) := fun _ _  => by kernel_rfl
noncomputable def o5 := ob Tryd.f88 [.r,.r,.r,.r,.r,.l,.l]
def B5 (P : PT) (x0 x1 : Int) (H : AHeap) : Prop :=
  pif (decide ((x0 : Int) < x1)) (B4 P H) (B3 P x0 x1 H)
theorem q5 (P : PT) : QB Tryd.prog T0 20 o5 (cnd 16 (En 20 k0 (B4 P)) (En 20 k1 (B3 P))) k1 (B5 P) := fun _ _ _ _  => by kernel_rfl
noncomputable def o6 := ob Tryd.f88 [.r,.r,.r,.r,.l,.r,.l,.l]
def B6 (P : PT) (H : AHeap) : Prop :=
  P (Value.int .i64 1) H
theorem q6 (P : PT) : QB Tryd.prog T0 20 o6 (ret P) k0 (B6 P) := fun _ _  => by kernel_rfl
abbrev k2 : Sk := [(0,.i .i64),(1,.i .i64),(6,.b)]
noncomputable def o7 := ob Tryd.f88 [.r,.r,.r,.r,.l,.l]
def B7 (P : PT) (x0 x1 : Int) (x6 : Bool) (H : AHeap) : Prop :=
  pif x6 (B6 P H) (B5 P x0 x1 H)
theorem q7 (P : PT) : QB Tryd.prog T0 20 o7 (cnd 13 (En 20 k0 (B6 P)) (En 20 k1 (B5 P))) k2 (B7 P) := fun _ _ _ _ _  => by kernel_rfl
noncomputable def o8 := ob Tryd.f88 [.r,.r,.r,.l,.r,.l,.r,.l]
def B8 (P : PT) (H : AHeap) : Prop :=
  P (Value.int .i64 (-1)) H
theorem q8 (P : PT) : QB Tryd.prog T0 20 o8 (ret P) k0 (B8 P) := fun _ _  => by kernel_rfl
noncomputable def o9 := ob Tryd.f88 [.r,.r,.r,.l,.r,.l,.l,.r,.l,.l]
def B9 (P : PT) (H : AHeap) : Prop :=
  P (Value.int .i64 0) H
theorem q9 (P : PT) : QB Tryd.prog T0 20 o9 (ret P) k0 (B9 P) := fun _ _  => by kernel_rfl
abbrev k3 : Sk := [(6,.b)]
noncomputable def o10 := ob Tryd.f88 [.r,.r,.r,.l,.r,.l,.l,.l]
def B10 (P : PT) (x6 : Bool) (H : AHeap) : Prop :=
  pif x6 (B9 P H) (B8 P H)
theorem q10 (P : PT) : QB Tryd.prog T0 20 o10 (cnd 12 (En 20 k0 (B9 P)) (En 20 k0 (B8 P))) k3 (B10 P) := fun _ _ _  => by kernel_rfl
abbrev k4 : Sk := [(0,.i .i64),(1,.i .i64),(5,.b),(6,.b)]
noncomputable def o11 := ob Tryd.f88 [.r,.r,.r,.l,.l]
def B11 (P : PT) (x0 x1 : Int) (x5 x6 : Bool) (H : AHeap) : Prop :=
  pif x5 (B10 P x6 H) (B7 P x0 x1 x6 H)
theorem q11 (P : PT) : QB Tryd.prog T0 20 o11 (cnd 11 (En 20 k3 (B10 P)) (En 20 k2 (B7 P))) k4 (B11 P) := fun _ _ _ _ _ _  => by kernel_rfl
abbrev k5 : Sk := [(0,.i .i64),(1,.i .i64),(5,.b)]
noncomputable def o12 := ob Tryd.f88 [.r,.r,.l]
def B12 (P : PT) (x0 x1 : Int) (x5 : Bool) (H : AHeap) : Prop :=
  AC Tryd.prog T0 92 [(Value.int .i64 x1)] H (fun v1 H2 => asB v1 (fun v3 => B11 P x0 x1 x5 v3 H2))
theorem q12 (P : PT) : QB Tryd.prog T0 20 o12 (En 20 k4 (B11 P)) k5 (B12 P) := fun _ _ _ _ _  => by kernel_rfl
noncomputable def o13 := ob Tryd.f88 [.r,.l]
def B13 (P : PT) (x0 x1 : Int) (H : AHeap) : Prop :=
  AC Tryd.prog T0 92 [(Value.int .i64 x0)] H (fun v1 H2 => asB v1 (fun v3 => B12 P x0 x1 v3 H2))
theorem q13 (P : PT) : QB Tryd.prog T0 20 o13 (En 20 k5 (B12 P)) k1 (B13 P) := fun _ _ _ _  => by kernel_rfl
noncomputable def o14 := ob Tryd.f88 [.l]
def B14 (P : PT) (x0 x1 : Int) (H : AHeap) : Prop :=
  B13 P x0 x1 H
theorem q14 (P : PT) : QB Tryd.prog T0 20 o14 (En 20 k1 (B13 P)) k1 (B14 P) := fun _ _ _ _  => by kernel_rfl
noncomputable def code : Code := (.seq (.region 0 ⟨o14⟩ false) (.seq (.region 1 ⟨o13⟩ false) (.seq (.region 2 ⟨o12⟩ false) (.seq (.seq (.region 3 ⟨o11⟩ false) (.cond (.tmp 11) (.seq (.seq (.region 4 ⟨o10⟩ false) (.cond (.tmp 12) (.seq (.region 5 ⟨o9⟩ false) .ret) .skip)) (.seq (.region 6 ⟨o8⟩ false) .ret)) .skip)) (.seq (.seq (.region 7 ⟨o7⟩ false) (.cond (.tmp 13) (.seq (.region 8 ⟨o6⟩ false) .ret) .skip)) (.seq (.seq (.region 9 ⟨o5⟩ false) (.cond (.tmp 16) (.seq (.region 10 ⟨o4⟩ false) .ret) .skip)) (.seq (.seq (.region 11 ⟨o3⟩ false) (.cond (.tmp 19) (.seq (.region 12 ⟨o2⟩ false) .ret) .skip)) (.seq (.region 13 ⟨o1⟩ false) .ret))))))))
theorem body : Tryd.f88.body = some code := by kernel_rfl
theorem main (P : PT) : ∀ env H, (En 20 k1 (B14 P)) env H → AW Tryd.prog T0 code env H (mkQ (ret P) (fun _ _ _ => False) (ret P)) :=
  (r_seq (rB T0_ok (q14 P)) (r_seq (rB T0_ok (q13 P)) (r_seq (rB T0_ok (q12 P)) (r_seq (r_seq (rB T0_ok (q11 P)) (r_cond rfl (r_seq (r_seq (rB T0_ok (q10 P)) (r_cond rfl (r_seq (rB T0_ok (q9 P)) r_ret) r_skip)) (r_seq (rB T0_ok (q8 P)) r_ret)) r_skip)) (r_seq (r_seq (rB T0_ok (q7 P)) (r_cond rfl (r_seq (rB T0_ok (q6 P)) r_ret) r_skip)) (r_seq (r_seq (rB T0_ok (q5 P)) (r_cond rfl (r_seq (rB T0_ok (q4 P)) r_ret) r_skip)) (r_seq (r_seq (rB T0_ok (q3 P)) (r_cond rfl (r_seq (rB T0_ok (q2 P)) r_ret) r_skip)) (r_seq (rB T0_ok (q1 P)) r_ret))))))))
theorem ac (P : PT) (x0 x1 : Int) (H : AHeap) (h : B14 P x0 x1 H) : AC Tryd.prog T0 88 [(Value.int .i64 x0), (Value.int .i64 x1)] H P :=
  r_fn T0_ok (c := code) (n := 20) Tryd.func88 body (by kernel_rfl) (main P) (En_mk (x0, x1, ()) (by kernel_rfl) ⟨by kernel_rfl, by kernel_rfl, trivial⟩ h)

end F88
-- slices.ContainsFunc[[]int,int]
namespace F89
noncomputable def ret (P : PT) : EP := retE T0 9 Tryd.f89 P
abbrev k0 : Sk := [(0,.v),(1,.v)]
noncomputable def o1 := ob Tryd.f89 [.r,.l]
def B1 (P : PT) (x0 x1 : Value) (H : AHeap) : Prop :=
  AC Tryd.prog T0 93 [x0, x1] H (fun v1 H2 => asI .i64 v1 (fun v3 => P (Value.bool (decide ((v3 : Int) ≥ 0))) H2))
theorem q1 (P : PT) : QB Tryd.prog T0 9 o1 (ret P) k0 (B1 P) := fun _ _ _ _  => by kernel_rfl
noncomputable def o2 := ob Tryd.f89 [.l]
def B2 (P : PT) (x0 x1 : Value) (H : AHeap) : Prop :=
  B1 P x0 x1 H
theorem q2 (P : PT) : QB Tryd.prog T0 9 o2 (En 9 k0 (B1 P)) k0 (B2 P) := fun _ _ _ _  => by kernel_rfl
noncomputable def code : Code := (.seq (.region 0 ⟨o2⟩ false) (.seq (.region 1 ⟨o1⟩ false) .ret))
theorem body : Tryd.f89.body = some code := by kernel_rfl
theorem main (P : PT) : ∀ env H, (En 9 k0 (B2 P)) env H → AW Tryd.prog T0 code env H (mkQ (ret P) (fun _ _ _ => False) (ret P)) :=
  (r_seq (rB T0_ok (q2 P)) (r_seq (rB T0_ok (q1 P)) r_ret))
theorem ac (P : PT) (x0 x1 : Value) (H : AHeap) (h : B2 P x0 x1 H) : AC Tryd.prog T0 89 [x0, x1] H P :=
  r_fn T0_ok (c := code) (n := 9) Tryd.func89 body (by kernel_rfl) (main P) (En_mk (x0, x1, ()) (by kernel_rfl) ⟨by kernel_rfl, by kernel_rfl, trivial⟩ h)

end F89
-- loop.example/g01329/impl.areAll[int]$1
namespace F90
noncomputable def ret (P : PT) : EP := retE T0 8 Tryd.f90 P
abbrev k0 : Sk := [(0,.i .i64),(1,.v)]
noncomputable def o1 := ob Tryd.f90 [.r,.l]
def B1 (P : PT) (x0 : Int) (x1 : Value) (H : AHeap) : Prop :=
  asP x1 (fun b1 o2 => ld1 H b1 o2 (fun v3 => callV Tryd.prog T0 v3 [(Value.int .i64 x0)] H (fun v4 H5 => asB v4 (fun v6 => P (Value.bool (!v6)) H5))))
theorem q1 (P : PT) : QB Tryd.prog T0 8 o1 (ret P) k0 (B1 P) := fun _ _ _ _  => by kernel_rfl
noncomputable def o2 := ob Tryd.f90 [.l]
def B2 (P : PT) (x0 : Int) (x1 : Value) (H : AHeap) : Prop :=
  B1 P x0 x1 H
theorem q2 (P : PT) : QB Tryd.prog T0 8 o2 (En 8 k0 (B1 P)) k0 (B2 P) := fun _ _ _ _  => by kernel_rfl
noncomputable def code : Code := (.seq (.region 0 ⟨o2⟩ false) (.seq (.region 1 ⟨o1⟩ false) .ret))
theorem body : Tryd.f90.body = some code := by kernel_rfl
theorem main (P : PT) : ∀ env H, (En 8 k0 (B2 P)) env H → AW Tryd.prog T0 code env H (mkQ (ret P) (fun _ _ _ => False) (ret P)) :=
  (r_seq (rB T0_ok (q2 P)) (r_seq (rB T0_ok (q1 P)) r_ret))
theorem ac (P : PT) (x0 : Int) (x1 : Value) (H : AHeap) (h : B2 P x0 x1 H) : AC Tryd.prog T0 90 [(Value.int .i64 x0), x1] H P :=
  r_fn T0_ok (c := code) (n := 8) Tryd.func90 body (by kernel_rfl) (main P) (En_mk (x0, x1, ()) (by kernel_rfl) ⟨by kernel_rfl, by kernel_rfl, trivial⟩ h)

end F90
-- cmp.isNaN[int64]
namespace F92
noncomputable def ret (P : PT) : EP := retE T0 6 Tryd.f92 P
abbrev k0 : Sk := [(0,.i .i64)]
noncomputable def o1 := ob Tryd.f92 [.r,.l]
def B1 (P : PT) (x0 : Int) (H : AHeap) : Prop :=
  P (Value.bool ((x0 : Int) != x0)) H
theorem q1 (P : PT) : QB Tryd.prog T0 6 o1 (ret P) k0 (B1 P) := fun _ _ _  => by kernel_rfl
noncomputable def o2 := ob Tryd.f92 [.l]
def B2 (P : PT) (x0 : Int) (H : AHeap) : Prop :=
  B1 P x0 H
theorem q2 (P : PT) : QB Tryd.prog T0 6 o2 (En 6 k0 (B1 P)) k0 (B2 P) := fun _ _ _  => by kernel_rfl
noncomputable def code : Code := (.seq (.region 0 ⟨o2⟩ false) (.seq (.region 1 ⟨o1⟩ false) .ret))
theorem body : Tryd.f92.body = some code := by kernel_rfl
theorem main (P : PT) : ∀ env H, (En 6 k0 (B2 P)) env H → AW Tryd.prog T0 code env H (mkQ (ret P) (fun _ _ _ => False) (ret P)) :=
  (r_seq (rB T0_ok (q2 P)) (r_seq (rB T0_ok (q1 P)) r_ret))
theorem ac (P : PT) (x0 : Int) (H : AHeap) (h : B2 P x0 H) : AC Tryd.prog T0 92 [(Value.int .i64 x0)] H P :=
  r_fn T0_ok (c := code) (n := 6) Tryd.func92 body (by kernel_rfl) (main P) (En_mk (x0, ()) (by kernel_rfl) ⟨by kernel_rfl, trivial⟩ h)

end F92
-- slices.IndexFunc[[]int,int]
namespace F93
noncomputable def ret (P : PT) : EP := retE T0 19 Tryd.f93 P
abbrev k0 : Sk := []
noncomputable def o1 := ob Tryd.f93 [.r,.r,.l]
def B1 (P : PT) (H : AHeap) : Prop :=
  P (Value.int .i64 (-1)) H
theorem q1 (P : PT) : QB Tryd.prog T0 19 o1 (ret P) k0 (B1 P) := fun _ _  => by kernel_rfl
abbrev k1 : Sk := [(0,.v),(1,.v),(7,.i .i64),(8,.i .i64)]
noncomputable def o3 := ob Tryd.f93 [.r,.l,.r,.l,.l,.r,.r,.r]
def B3 (P : PT) (N2 : NTy k1 Pr) (x0 x1 : Value) (x7 x8 : Int) (H : AHeap) : Prop :=
  N2 x0 x1 x7 (IntKind.i64.wrap (x8 + 1)) H
theorem q3 (P : PT) (N2 : NTy k1 Pr) : QB Tryd.prog T0 19 o3 (En 19 k1 N2) k1 (B3 P N2) := fun _ _ _ _ _ _  => by kernel_rfl
abbrev k2 : Sk := [(5,.i .i64)]
noncomputable def o4 := ob Tryd.f93 [.r,.l,.r,.l,.l,.r,.r,.l,.l,.r,.r,.l,.l]
def B4 (P : PT) (N2 : NTy k1 Pr) (x5 : Int) (H : AHeap) : Prop :=
  P (Value.int .i64 x5) H
theorem q4 (P : PT) (N2 : NTy k1 Pr) : QB Tryd.prog T0 19 o4 (ret P) k2 (B4 P N2) := fun _ _ _  => by kernel_rfl
abbrev k3 : Sk := [(0,.v),(1,.v),(5,.i .i64),(7,.i .i64),(8,.i .i64)]
noncomputable def o5 := ob Tryd.f93 [.r,.l,.r,.l,.l,.r,.r,.l,.l,.r,.l]
def B5 (P : PT) (N2 : NTy k1 Pr) (x0 x1 : Value) (x5 x7 x8 : Int) (H : AHeap) : Prop :=
  idxK x0 x5 1 (fun b1 o2 => ldI .i64 H b1 o2 (fun v3 => callV Tryd.prog T0 x1 [(Value.int .i64 v3)] H (fun v4 H5 => asB v4 (fun v6 => pif v6 (B4 P N2 x5 H5) (B3 P N2 x0 x1 x7 x8 H5)))))
theorem q5 (P : PT) (N2 : NTy k1 Pr) : QB Tryd.prog T0 19 o5 (cnd 16 (En 19 k2 (B4 P N2)) (En 19 k1 (B3 P N2))) k3 (B5 P N2) := fun _ _ _ _ _ _ _  => by kernel_rfl
noncomputable def o6 := ob Tryd.f93 [.r,.l,.r,.l,.l,.r,.r,.l,.l,.l]
def B6 (P : PT) (N2 : NTy k1 Pr) (x0 x1 : Value) (x7 x8 : Int) (H : AHeap) : Prop :=
  B5 P N2 x0 x1 x8 x7 x8 H
theorem q6 (P : PT) (N2 : NTy k1 Pr) : QB Tryd.prog T0 19 o6 (En 19 k3 (B5 P N2)) k1 (B6 P N2) := fun _ _ _ _ _ _  => by kernel_rfl
noncomputable def o7 := ob Tryd.f93 [.r,.l,.r,.l,.l,.l]
def B7 (P : PT) (N2 : NTy k1 Pr) (x0 x1 : Value) (x7 x8 : Int) (H : AHeap) : Prop :=
  pif (decide ((x8 : Int) < x7)) (B6 P N2 x0 x1 x7 x8 H) (B1 P H)
theorem q7 (P : PT) (N2 : NTy k1 Pr) : QB Tryd.prog T0 19 o7 (cnd 9 (En 19 k1 (B6 P N2)) (En 19 k0 (B1 P))) k1 (B7 P N2) := fun _ _ _ _ _ _  => by kernel_rfl
def L2 (P : PT) (x0 x1 : Value) (x7 x8 : Int) (H : AHeap) : Prop :=
  ∃ (I : NTy k1 Pr) (μ : NTy k1 (AHeap → Nat)), I x0 x1 x7 x8 H ∧ ∀ y0 y1 y7 y8 G, I y0 y1 y7 y8 G → B7 P (fun z0 z1 z7 z8 G' => I z0 z1 z7 z8 G' ∧ μ z0 z1 z7 z8 G' < μ y0 y1 y7 y8 G) y0 y1 y7 y8 G
theorem l2 (P : PT) : LQ k1 (L2 P) (B7 P) := fun ⟨_,_,_,_,_⟩ _ ⟨I, μ, h0, hI⟩ => ⟨apT _ I, apT _ μ, h0, fun ⟨_,_,_,_,_⟩ _ h => hI _ _ _ _ _  h⟩
abbrev k4 : Sk := [(0,.v),(1,.v)]
noncomputable def o8 := ob Tryd.f93 [.r,.l,.l]
def B8 (P : PT) (x0 x1 : Value) (H : AHeap) : Prop :=
  lenK x0 (fun n1 => L2 P x0 x1 (n1 : Int) 0 H)
theorem q8 (P : PT) : QB Tryd.prog T0 19 o8 (En 19 k1 (L2 P)) k4 (B8 P) := fun _ _ _ _  => by kernel_rfl
noncomputable def o9 := ob Tryd.f93 [.l]
def B9 (P : PT) (x0 x1 : Value) (H : AHeap) : Prop :=
  B8 P x0 x1 H
theorem q9 (P : PT) : QB Tryd.prog T0 19 o9 (En 19 k4 (B8 P)) k4 (B9 P) := fun _ _ _ _  => by kernel_rfl
noncomputable def code : Code := (.seq (.region 0 ⟨o9⟩ false) (.seq (.seq (.region 1 ⟨o8⟩ false) (.block 0 (.loop (.seq (.region 2 ⟨o7⟩ false) (.seq (.cond (.tmp 9) .skip (.exit 0)) (.seq (.block 1 (.seq (.region 3 ⟨o6⟩ false) (.seq (.region 4 ⟨o5⟩ false) (.cond (.tmp 16) (.seq (.region 5 ⟨o4⟩ false) .ret) .skip)))) (.region 6 ⟨o3⟩ false))))))) (.seq (.region 7 ⟨o1⟩ false) .ret)))
theorem body : Tryd.f93.body = some code := by kernel_rfl
theorem main (P : PT) : ∀ env H, (En 19 k4 (B9 P)) env H → AW Tryd.prog T0 code env H (mkQ (ret P) (fun _ _ _ => False) (ret P)) :=
  (r_seq (rB T0_ok (q9 P)) (r_seq (r_seq (rB T0_ok (q8 P)) (r_block (rL (l2 P) (fun N2 => (r_seq (rB T0_ok (q7 P N2)) (r_seq (r_cond rfl r_skip (r_exit (fun _ _ h => h))) (r_seq (r_block (r_seq (rB T0_ok (q6 P N2)) (r_seq (rB T0_ok (q5 P N2)) (r_cond rfl (r_seq (rB T0_ok (q4 P N2)) r_ret) r_skip)))) (rB T0_ok (q3 P N2))))))))) (r_seq (rB T0_ok (q1 P)) r_ret)))
theorem ac (P : PT) (x0 x1 : Value) (H : AHeap) (h : B9 P x0 x1 H) : AC Tryd.prog T0 93 [x0, x1] H P :=
  r_fn T0_ok (c := code) (n := 19) Tryd.func93 body (by kernel_rfl) (main P) (En_mk (x0, x1, ()) (by kernel_rfl) ⟨by kernel_rfl, by kernel_rfl, trivial⟩ h)

end F93
end Go.Proofs
