import Derived.Test.YtkmjiikgkhhciaaT
set_option linter.unusedVariables false
set_option maxRecDepth 100000
namespace Go.Proofs
open Go.Abs
-- cmp.Compare[int64]
namespace F170
noncomputable def ret (P : PT) : EP := retE T0 20 Try.f170 P
abbrev k0 : Sk := []
noncomputable def o1 := ob Try.f170 [.r,.r,.r,.r,.r,.r,.r,.l]
def B1 (P : PT) (H : AHeap) : Prop :=
  P (Value.int .i64 0) H
theorem q1 (P : PT) : QB Try.prog T0 20 o1 (ret P) k0 (B1 P) := fun _ _  => by kernel_rfl
noncomputable def o2 := ob Try.f170 [.r,.r,.r,.r,.r,.r,.l,.r,.l,.l]
def B2 (P : PT) (H : AHeap) : Prop :=
  P (Value.int .i64 1) H
theorem q2 (P : PT) : QB Try.prog T0 20 o2 (ret P) k0 (B2 P) := fun _ _  => by kernel_rfl
abbrev k1 : Sk := [(0,.i .i64),(1,.i .i64)]
noncomputable def o3 := ob Try.f170 [.r,.r,.r,.r,.r,.r,.l,.l]
def B3 (P : PT) (x0 x1 : Int) (H : AHeap) : Prop :=
  pif (decide ((x0 : Int) > x1)) (B2 P H) (B1 P H)
theorem q3 (P : PT) : QB Try.prog T0 20 o3 (cnd 19 (En 20 k0 (B2 P)) (En 20 k0 (B1 P))) k1 (B3 P) := fun _ _ _ _  => by kernel_rfl
noncomputable def o4 := ob Try.f170 [.r,.r,.r,.r,.r,.l,.r,.l,.l]
def B4 (P : PT) (H : AHeap) : Prop :=
  P (Value.int .i64 (-1)) H
theorem q4 (P : PT) : QB Try.prog T0 20 o4 (ret P) k0 (B4 P) := fun _ _  => by kernel_rfl
noncomputable def o5 := ob Try.f170 [.r,.r,.r,.r,.r,.l,.l]
def B5 (P : PT) (x0 x1 : Int) (H : AHeap) : Prop :=
  pif (decide ((x0 : Int) < x1)) (B4 P H) (B3 P x0 x1 H)
theorem q5 (P : PT) : QB Try.prog T0 20 o5 (cnd 16 (En 20 k0 (B4 P)) (En 20 k1 (B3 P))) k1 (B5 P) := fun _ _ _ _  => by kernel_rfl
noncomputable def o6 := ob Try.f170 [.r,.r,.r,.r,.l,.r,.l,.l]
def B6 (P : PT) (H : AHeap) : Prop :=
  P (Value.int .i64 1) H
theorem q6 (P : PT) : QB Try.prog T0 20 o6 (ret P) k0 (B6 P) := fun _ _  => by kernel_rfl
abbrev k2 : Sk := [(0,.i .i64),(1,.i .i64),(6,.b)]
noncomputable def o7 := ob Try.f170 [.r,.r,.r,.r,.l,.l]
def B7 (P : PT) (x0 x1 : Int) (x6 : Bool) (H : AHeap) : Prop :=
  pif x6 (B6 P H) (B5 P x0 x1 H)
theorem q7 (P : PT) : QB Try.prog T0 20 o7 (cnd 13 (En 20 k0 (B6 P)) (En 20 k1 (B5 P))) k2 (B7 P) := fun _ _ _ _ _  => by kernel_rfl
noncomputable def o8 := ob Try.f170 [.r,.r,.r,.l,.r,.l,.r,.l]
def B8 (P : PT) (H : AHeap) : Prop :=
  P (Value.int .i64 (-1)) H
theorem q8 (P : PT) : QB Try.prog T0 20 o8 (ret P) k0 (B8 P) := fun _ _  => by kernel_rfl
noncomputable def o9 := ob Try.f170 [.r,.r,.r,.l,.r,.l,.l,.r,.l,.l]
def B9 (P : PT) (H : AHeap) : Prop :=
  P (Value.int .i64 0) H
theorem q9 (P : PT) : QB Try.prog T0 20 o9 (ret P) k0 (B9 P) := fun _ _  => by kernel_rfl
abbrev k3 : Sk := [(6,.b)]
noncomputable def o10 := ob Try.f170 [.r,.r,.r,.l,.r,.l,.l,.l]
def B10 (P : PT) (x6 : Bool) (H : AHeap) : Prop :=
  pif x6 (B9 P H) (B8 P H)
theorem q10 (P : PT) : QB Try.prog T0 20 o10 (cnd 12 (En 20 k0 (B9 P)) (En 20 k0 (B8 P))) k3 (B10 P) := fun _ _ _  => by kernel_rfl
abbrev k4 : Sk := [(0,.i .i64),(1,.i .i64),(5,.b),(6,.b)]
noncomputable def o11 := ob Try.f170 [.r,.r,.r,.l,.l]
def B11 (P : PT) (x0 x1 : Int) (x5 x6 : Bool) (H : AHeap) : Prop :=
  pif x5 (B10 P x6 H) (B7 P x0 x1 x6 H)
theorem q11 (P : PT) : QB Try.prog T0 20 o11 (cnd 11 (En 20 k3 (B10 P)) (En 20 k2 (B7 P))) k4 (B11 P) := fun _ _ _ _ _ _  => by kernel_rfl
abbrev k5 : Sk := [(0,.i .i64),(1,.i .i64),(5,.b)]
noncomputable def o12 := ob Try.f170 [.r,.r,.l]
def B12 (P : PT) (x0 x1 : Int) (x5 : Bool) (H : AHeap) : Prop :=
  AC Try.prog T0 188 [(Value.int .i64 x1)] H (fun v1 H2 => asB v1 (fun v3 => B11 P x0 x1 x5 v3 H2))
theorem q12 (P : PT) : QB Try.prog T0 20 o12 (En 20 k4 (B11 P)) k5 (B12 P) := fun _ _ _ _ _  => by kernel_rfl
noncomputable def o13 := ob Try.f170 [.r,.l]
def B13 (P : PT) (x0 x1 : Int) (H : AHeap) : Prop :=
  AC Try.prog T0 188 [(Value.int .i64 x0)] H (fun v1 H2 => asB v1 (fun v3 => B12 P x0 x1 v3 H2))
theorem q13 (P : PT) : QB Try.prog T0 20 o13 (En 20 k5 (B12 P)) k1 (B13 P) := fun _ _ _ _  => by kernel_rfl
noncomputable def o14 := ob Try.f170 [.l]
def B14 (P : PT) (x0 x1 : Int) (H : AHeap) : Prop :=
  B13 P x0 x1 H
theorem q14 (P : PT) : QB Try.prog T0 20 o14 (En 20 k1 (B13 P)) k1 (B14 P) := fun _ _ _ _  => by kernel_rfl
noncomputable def code : Code := (.seq (.region 0 ⟨o14⟩ false) (.seq (.region 1 ⟨o13⟩ false) (.seq (.region 2 ⟨o12⟩ false) (.seq (.seq (.region 3 ⟨o11⟩ false) (.cond (.tmp 11) (.seq (.seq (.region 4 ⟨o10⟩ false) (.cond (.tmp 12) (.seq (.region 5 ⟨o9⟩ false) .ret) .skip)) (.seq (.region 6 ⟨o8⟩ false) .ret)) .skip)) (.seq (.seq (.region 7 ⟨o7⟩ false) (.cond (.tmp 13) (.seq (.region 8 ⟨o6⟩ false) .ret) .skip)) (.seq (.seq (.region 9 ⟨o5⟩ false) (.cond (.tmp 16) (.seq (.region 10 ⟨o4⟩ false) .ret) .skip)) (.seq (.seq (.region 11 ⟨o3⟩ false) (.cond (.tmp 19) (.seq (.region 12 ⟨o2⟩ false) .ret) .skip)) (.seq (.region 13 ⟨o1⟩ false) .ret))))))))
theorem body : Try.f170.body = some code := by kernel_rfl
theorem main (P : PT) : ∀ env H, (En 20 k1 (B14 P)) env H → AW Try.prog T0 code env H (mkQ (ret P) (fun _ _ _ => False) (ret P)) :=
  (r_seq (rB T0_ok (q14 P)) (r_seq (rB T0_ok (q13 P)) (r_seq (rB T0_ok (q12 P)) (r_seq (r_seq (rB T0_ok (q11 P)) (r_cond rfl (r_seq (r_seq (rB T0_ok (q10 P)) (r_cond rfl (r_seq (rB T0_ok (q9 P)) r_ret) r_skip)) (r_seq (rB T0_ok (q8 P)) r_ret)) r_skip)) (r_seq (r_seq (rB T0_ok (q7 P)) (r_cond rfl (r_seq (rB T0_ok (q6 P)) r_ret) r_skip)) (r_seq (r_seq (rB T0_ok (q5 P)) (r_cond rfl (r_seq (rB T0_ok (q4 P)) r_ret) r_skip)) (r_seq (r_seq (rB T0_ok (q3 P)) (r_cond rfl (r_seq (rB T0_ok (q2 P)) r_ret) r_skip)) (r_seq (rB T0_ok (q1 P)) r_ret))))))))
theorem ac (P : PT) (x0 x1 : Int) (H : AHeap) (h : B14 P x0 x1 H) : AC Try.prog T0 170 [(Value.int .i64 x0), (Value.int .i64 x1)] H P :=
  r_fn T0_ok (c := code) (n := 20) Try.func170 body (by kernel_rfl) (main P) (En_mk (x0, x1, ()) (by kernel_rfl) ⟨by kernel_rfl, by kernel_rfl, trivial⟩ h)

end F170
-- slices.Compare[[]int64,int64]
namespace F171
noncomputable def ret (P : PT) : EP := retE T0 36 Try.f171 P
abbrev k0 : Sk := []
noncomputable def o1 := ob Try.f171 [.r,.r,.r,.l]
def B1 (P : PT) (H : AHeap) : Prop :=
  P (Value.int .i64 0) H
theorem q1 (P : PT) : QB Try.prog T0 36 o1 (ret P) k0 (B1 P) := fun _ _  => by kernel_rfl
noncomputable def o2 := ob Try.f171 [.r,.r,.l,.r,.l,.l]
def B2 (P : PT) (H : AHeap) : Prop :=
  P (Value.int .i64 (-1)) H
theorem q2 (P : PT) : QB Try.prog T0 36 o2 (ret P) k0 (B2 P) := fun _ _  => by kernel_rfl
abbrev k1 : Sk := [(0,.v),(1,.v)]
noncomputable def o3 := ob Try.f171 [.r,.r,.l,.l]
def B3 (P : PT) (x0 x1 : Value) (H : AHeap) : Prop :=
  lenK x0 (fun n1 => lenK x1 (fun n2 => pif (decide (((n1 : Int) : Int) < (n2 : Int))) (B2 P H) (B1 P H)))
theorem q3 (P : PT) : QB Try.prog T0 36 o3 (cnd 35 (En 36 k0 (B2 P)) (En 36 k0 (B1 P))) k1 (B3 P) := fun _ _ _ _  => by kernel_rfl
abbrev k2 : Sk := [(0,.v),(1,.v),(9,.v),(10,.i .i64),(11,.i .i64)]
noncomputable def o5 := ob Try.f171 [.r,.l,.r,.l,.l,.r,.r,.r]
def B5 (P : PT) (N4 : NTy k2 Pr) (x0 x1 x9 : Value) (x10 x11 : Int) (H : AHeap) : Prop :=
  N4 x0 x1 x9 x10 (IntKind.i64.wrap (x11 + 1)) H
theorem q5 (P : PT) (N4 : NTy k2 Pr) : QB Try.prog T0 36 o5 (En 36 k2 N4) k2 (B5 P N4) := fun _ _ _ _ _ _ _  => by kernel_rfl
abbrev k3 : Sk := [(8,.i .i64)]
noncomputable def o6 := ob Try.f171 [.r,.l,.r,.l,.l,.r,.r,.l,.l,.r,.r,.r,.r,.r,.l,.l]
def B6 (P : PT) (N4 : NTy k2 Pr) (x8 : Int) (H : AHeap) : Prop :=
  P (Value.int .i64 x8) H
theorem q6 (P : PT) (N4 : NTy k2 Pr) : QB Try.prog T0 36 o6 (ret P) k3 (B6 P N4) := fun _ _ _  => by kernel_rfl
abbrev k4 : Sk := [(0,.v),(1,.v),(8,.i .i64),(9,.v),(10,.i .i64),(11,.i .i64)]
noncomputable def o7 := ob Try.f171 [.r,.l,.r,.l,.l,.r,.r,.l,.l,.r,.r,.r,.r,.l]
def B7 (P : PT) (N4 : NTy k2 Pr) (x0 x1 : Value) (x8 : Int) (x9 : Value) (x10 x11 : Int) (H : AHeap) : Prop :=
  pif ((x8 : Int) != 0) (B6 P N4 x8 H) (B5 P N4 x0 x1 x9 x10 x11 H)
theorem q7 (P : PT) (N4 : NTy k2 Pr) : QB Try.prog T0 36 o7 (cnd 28 (En 36 k3 (B6 P N4)) (En 36 k2 (B5 P N4))) k4 (B7 P N4) := fun _ _ _ _ _ _ _ _  => by kernel_rfl
abbrev k5 : Sk := [(0,.v),(1,.v),(6,.i .i64),(7,.i .i64),(9,.v),(10,.i .i64),(11,.i .i64)]
noncomputable def o8 := ob Try.f171 [.r,.l,.r,.l,.l,.r,.r,.l,.l,.r,.r,.r,.l]
def B8 (P : PT) (N4 : NTy k2 Pr) (x0 x1 : Value) (x6 x7 : Int) (x9 : Value) (x10 x11 : Int) (H : AHeap) : Prop :=
  AC Try.prog T0 170 [(Value.int .i64 x6), (Value.int .i64 x7)] H (fun v1 H2 => asI .i64 v1 (fun v3 => B7 P N4 x0 x1 v3 x9 x10 x11 H2))
theorem q8 (P : PT) (N4 : NTy k2 Pr) : QB Try.prog T0 36 o8 (En 36 k4 (B7 P N4)) k5 (B8 P N4) := fun _ _ _ _ _ _ _ _ _  => by kernel_rfl
abbrev k6 : Sk := [(0,.v),(1,.v),(5,.i .i64),(6,.i .i64),(9,.v),(10,.i .i64),(11,.i .i64)]
noncomputable def o9 := ob Try.f171 [.r,.l,.r,.l,.l,.r,.r,.l,.l,.r,.r,.l]
def B9 (P : PT) (N4 : NTy k2 Pr) (x0 x1 : Value) (x5 x6 : Int) (x9 : Value) (x10 x11 : Int) (H : AHeap) : Prop :=
  idxK x1 x5 1 (fun b1 o2 => ldI .i64 H b1 o2 (fun v3 => B8 P N4 x0 x1 x6 v3 x9 x10 x11 H))
theorem q9 (P : PT) (N4 : NTy k2 Pr) : QB Try.prog T0 36 o9 (En 36 k5 (B8 P N4)) k6 (B9 P N4) := fun _ _ _ _ _ _ _ _ _  => by kernel_rfl
noncomputable def o10 := ob Try.f171 [.r,.l,.r,.l,.l,.r,.r,.l,.l,.r,.l,.r,.l,.l]
def B10 (P : PT) (N4 : NTy k2 Pr) (H : AHeap) : Prop :=
  P (Value.int .i64 1) H
theorem q10 (P : PT) (N4 : NTy k2 Pr) : QB Try.prog T0 36 o10 (ret P) k0 (B10 P N4) := fun _ _  => by kernel_rfl
noncomputable def o11 := ob Try.f171 [.r,.l,.r,.l,.l,.r,.r,.l,.l,.r,.l,.l]
def B11 (P : PT) (N4 : NTy k2 Pr) (x0 x1 : Value) (x5 x6 : Int) (x9 : Value) (x10 x11 : Int) (H : AHeap) : Prop :=
  lenK x1 (fun n1 => pif (decide ((x5 : Int) ≥ (n1 : Int))) (B10 P N4 H) (B9 P N4 x0 x1 x5 x6 x9 x10 x11 H))
theorem q11 (P : PT) (N4 : NTy k2 Pr) : QB Try.prog T0 36 o11 (cnd 19 (En 36 k0 (B10 P N4)) (En 36 k6 (B9 P N4))) k6 (B11 P N4) := fun _ _ _ _ _ _ _ _ _  => by kernel_rfl
noncomputable def o12 := ob Try.f171 [.r,.l,.r,.l,.l,.r,.r,.l,.l,.l]
def B12 (P : PT) (N4 : NTy k2 Pr) (x0 x1 x9 : Value) (x10 x11 : Int) (H : AHeap) : Prop :=
  idxK x9 x11 1 (fun b1 o2 => ldI .i64 H b1 o2 (fun v3 => B11 P N4 x0 x1 x11 v3 x9 x10 x11 H))
theorem q12 (P : PT) (N4 : NTy k2 Pr) : QB Try.prog T0 36 o12 (En 36 k6 (B11 P N4)) k2 (B12 P N4) := fun _ _ _ _ _ _ _  => by kernel_rfl
noncomputable def o13 := ob Try.f171 [.r,.l,.r,.l,.l,.l]
def B13 (P : PT) (N4 : NTy k2 Pr) (x0 x1 x9 : Value) (x10 x11 : Int) (H : AHeap) : Prop :=
  pif (decide ((x11 : Int) < x10)) (B12 P N4 x0 x1 x9 x10 x11 H) (B3 P x0 x1 H)
theorem q13 (P : PT) (N4 : NTy k2 Pr) : QB Try.prog T0 36 o13 (cnd 12 (En 36 k2 (B12 P N4)) (En 36 k1 (B3 P))) k2 (B13 P N4) := fun _ _ _ _ _ _ _  => by kernel_rfl
def L4 (P : PT) (x0 x1 x9 : Value) (x10 x11 : Int) (H : AHeap) : Prop :=
  ∃ (I : NTy k2 Pr) (μ : NTy k2 (AHeap → Nat)), I x0 x1 x9 x10 x11 H ∧ ∀ y0 y1 y9 y10 y11 G, I y0 y1 y9 y10 y11 G → B13 P (fun z0 z1 z9 z10 z11 G' => I z0 z1 z9 z10 z11 G' ∧ μ z0 z1 z9 z10 z11 G' < μ y0 y1 y9 y10 y11 G) y0 y1 y9 y10 y11 G
theorem l4 (P : PT) : LQ k2 (L4 P) (B13 P) := fun ⟨_,_,_,_,_,_⟩ _ ⟨I, μ, h0, hI⟩ => ⟨apT _ I, apT _ μ, h0, fun ⟨_,_,_,_,_,_⟩ _ h => hI _ _ _ _ _ _  h⟩
noncomputable def o14 := ob Try.f171 [.r,.l,.l]
def B14 (P : PT) (x0 x1 : Value) (H : AHeap) : Prop :=
  lenK x0 (fun n1 => L4 P x0 x1 x0 (n1 : Int) 0 H)
theorem q14 (P : PT) : QB Try.prog T0 36 o14 (En 36 k2 (L4 P)) k1 (B14 P) := fun _ _ _ _  => by kernel_rfl
noncomputable def o15 := ob Try.f171 [.l]
def B15 (P : PT) (x0 x1 : Value) (H : AHeap) : Prop :=
  B14 P x0 x1 H
theorem q15 (P : PT) : QB Try.prog T0 36 o15 (En 36 k1 (B14 P)) k1 (B15 P) := fun _ _ _ _  => by kernel_rfl
noncomputable def code : Code := (.seq (.region 0 ⟨o15⟩ false) (.seq (.seq (.region 1 ⟨o14⟩ false) (.block 0 (.loop (.seq (.region 2 ⟨o13⟩ false) (.seq (.cond (.tmp 12) .skip (.exit 0)) (.seq (.block 1 (.seq (.region 3 ⟨o12⟩ false) (.seq (.seq (.region 4 ⟨o11⟩ false) (.cond (.tmp 19) (.seq (.region 5 ⟨o10⟩ false) .ret) .skip)) (.seq (.region 6 ⟨o9⟩ false) (.seq (.region 7 ⟨o8⟩ false) (.seq (.region 8 ⟨o7⟩ false) (.cond (.tmp 28) (.seq (.region 9 ⟨o6⟩ false) .ret) .skip))))))) (.region 10 ⟨o5⟩ false))))))) (.seq (.seq (.region 11 ⟨o3⟩ false) (.cond (.tmp 35) (.seq (.region 12 ⟨o2⟩ false) .ret) .skip)) (.seq (.region 13 ⟨o1⟩ false) .ret))))
theorem body : Try.f171.body = some code := by kernel_rfl
theorem main (P : PT) : ∀ env H, (En 36 k1 (B15 P)) env H → AW Try.prog T0 code env H (mkQ (ret P) (fun _ _ _ => False) (ret P)) :=
  (r_seq (rB T0_ok (q15 P)) (r_seq (r_seq (rB T0_ok (q14 P)) (r_block (rL (l4 P) (fun N4 => (r_seq (rB T0_ok (q13 P N4)) (r_seq (r_cond rfl r_skip (r_exit (fun _ _ h => h))) (r_seq (r_block (r_seq (rB T0_ok (q12 P N4)) (r_seq (r_seq (rB T0_ok (q11 P N4)) (r_cond rfl (r_seq (rB T0_ok (q10 P N4)) r_ret) r_skip)) (r_seq (rB T0_ok (q9 P N4)) (r_seq (rB T0_ok (q8 P N4)) (r_seq (rB T0_ok (q7 P N4)) (r_cond rfl (r_seq (rB T0_ok (q6 P N4)) r_ret) r_skip))))))) (rB T0_ok (q5 P N4))))))))) (r_seq (r_seq (rB T0_ok (q3 P)) (r_cond rfl (r_seq (rB T0_ok (q2 P)) r_ret) r_skip)) (r_seq (rB T0_ok (q1 P)) r_ret))))
theorem ac (P : PT) (x0 x1 : Value) (H : AHeap) (h : B15 P x0 x1 H) : AC Try.prog T0 171 [x0, x1] H P :=
  r_fn T0_ok (c := code) (n := 36) Try.func171 body (by kernel_rfl) (main P) (En_mk (x0, x1, ()) (by kernel_rfl) ⟨by kernel_rfl, by kernel_rfl, trivial⟩ h)

end F171
-- loop.example/g01329/impl.isSize
namespace F172
noncomputable def ret (P : PT) : EP := retE T0 10 Try.f172 P
abbrev k0 : Sk := [(0,.i .i64)]
noncomputable def o1 := ob Try.f172 [.r,.l]
def B1 (P : PT) (x0 : Int) (H : AHeap) : Prop :=
  AC Try.prog T0 53 [(Value.int .i64 x0), (Value.int .i64 2), (Value.int .i64 20)] H (fun v1 H2 => asB v1 (fun v3 => pif v3 (P (Value.bool ((Int.tmod x0 2 : Int) == 0)) H2) (P (Value.bool false) H2)))
theorem q1 (P : PT) : QB Try.prog T0 10 o1 (ret P) k0 (B1 P) := fun _ _ _  => by kernel_rfl
noncomputable def o2 := ob Try.f172 [.l]
def B2 (P : PT) (x0 : Int) (H : AHeap) : Prop :=
  B1 P x0 H
theorem q2 (P : PT) : QB Try.prog T0 10 o2 (En 10 k0 (B1 P)) k0 (B2 P) := fun _ _ _  => by kernel_rfl
noncomputable def code : Code := (.seq (.region 0 ⟨o2⟩ false) (.seq (.region 1 ⟨o1⟩ false) .ret))
theorem body : Try.f172.body = some code := by kernel_rfl
theorem main (P : PT) : ∀ env H, (En 10 k0 (B2 P)) env H → AW Try.prog T0 code env H (mkQ (ret P) (fun _ _ _ => False) (ret P)) :=
  (r_seq (rB T0_ok (q2 P)) (r_seq (rB T0_ok (q1 P)) r_ret))
theorem ac (P : PT) (x0 : Int) (H : AHeap) (h : B2 P x0 H) : AC Try.prog T0 172 [(Value.int .i64 x0)] H P :=
  r_fn T0_ok (c := code) (n := 10) Try.func172 body (by kernel_rfl) (main P) (En_mk (x0, ()) (by kernel_rfl) ⟨by kernel_rfl, trivial⟩ h)

end F172
-- loop.example/g01329/impl.areEdges$1
namespace F173
noncomputable def ret (P : PT) : EP := retE T0 23 Try.f173 P
abbrev k0 : Sk := [(1,.v),(2,.x)]
noncomputable def o1 := ob Try.f173 [.r,.l]
def B1 (P : PT) (x1 : Value) (x2 : Nat) (H : AHeap) : Prop :=
  ldI .i64 H x2 0 (fun v1 => asP x1 (fun b2 o3 => ldI .i64 H b2 o3 (fun v4 => AC Try.prog T0 53 [(Value.int .i64 v1), (Value.int .i64 0), (Value.int .i64 (IntKind.i64.wrap (v4 - 1)))] H (fun v5 H6 => asB v5 (fun v7 => pif v7 (ldI .i64 H6 x2 1 (fun v8 => asP x1 (fun b9 o10 => ldI .i64 H6 b9 o10 (fun v11 => AC Try.prog T0 53 [(Value.int .i64 v8), (Value.int .i64 0), (Value.int .i64 (IntKind.i64.wrap (v11 - 1)))] H6 (fun v12 H13 => asB v12 (fun v14 => pif v14 (ldI .i64 H13 x2 0 (fun v15 => ldI .i64 H13 x2 1 (fun v16 => P (Value.bool ((v15 : Int) != v16)) H13))) (P (Value.bool false) H13))))))) (P (Value.bool false) H6))))))
theorem q1 (P : PT) : QB Try.prog T0 23 o1 (ret P) k0 (B1 P) := fun _ _ _ _  => by kernel_rfl
abbrev k1 : Sk := [(0,.g [.i,.i]),(1,.v)]
noncomputable def o2 := ob Try.f173 [.l]
def B2 (P : PT) (x0a x0b : Int) (x1 : Value) (H : AHeap) : Prop :=
  newK H [(Value.int .i64 x0a), (Value.int .i64 x0b)] 67 (fun b1 H2 => B1 P x1 b1 H2)
theorem q2 (P : PT) : QB Try.prog T0 23 o2 (En 23 k0 (B1 P)) k1 (B2 P) := fun _ _ _ _ _  => by kernel_rfl
noncomputable def code : Code := (.seq (.region 0 ⟨o2⟩ false) (.seq (.region 1 ⟨o1⟩ false) .ret))
theorem body : Try.f173.body = some code := by kernel_rfl
theorem main (P : PT) : ∀ env H, (En 23 k1 (B2 P)) env H → AW Try.prog T0 code env H (mkQ (ret P) (fun _ _ _ => False) (ret P)) :=
  (r_seq (rB T0_ok (q2 P)) (r_seq (rB T0_ok (q1 P)) r_ret))
theorem ac (P : PT) (x0a x0b : Int) (x1 : Value) (H : AHeap) (h : B2 P x0a x0b x1 H) : AC Try.prog T0 173 [(Value.agg ⟨[(Value.int .i64 x0a), (Value.int .i64 x0b)]⟩), x1] H P :=
  r_fn T0_ok (c := code) (n := 23) Try.func173 body (by kernel_rfl) (main P) (En_mk (x0a, x0b, x1, ()) (by kernel_rfl) ⟨by kernel_rfl, by kernel_rfl, trivial⟩ h)

end F173
-- slices.ContainsFunc[[]loop.example/g01329/impl.Edge,loop.example/g01329/impl.Edge]
namespace F174
noncomputable def ret (P : PT) : EP := retE T0 9 Try.f174 P
abbrev k0 : Sk := [(0,.v),(1,.v)]
noncomputable def o1 := ob Try.f174 [.r,.l]
def B1 (P : PT) (x0 x1 : Value) (H : AHeap) : Prop :=
  AC Try.prog T0 181 [x0, x1] H (fun v1 H2 => asI .i64 v1 (fun v3 => P (Value.bool (decide ((v3 : Int) ≥ 0))) H2))
theorem q1 (P : PT) : QB Try.prog T0 9 o1 (ret P) k0 (B1 P) := fun _ _ _ _  => by kernel_rfl
noncomputable def o2 := ob Try.f174 [.l]
def B2 (P : PT) (x0 x1 : Value) (H : AHeap) : Prop :=
  B1 P x0 x1 H
theorem q2 (P : PT) : QB Try.prog T0 9 o2 (En 9 k0 (B1 P)) k0 (B2 P) := fun _ _ _ _  => by kernel_rfl
noncomputable def code : Code := (.seq (.region 0 ⟨o2⟩ false) (.seq (.region 1 ⟨o1⟩ false) .ret))
theorem body : Try.f174.body = some code := by kernel_rfl
theorem main (P : PT) : ∀ env H, (En 9 k0 (B2 P)) env H → AW Try.prog T0 code env H (mkQ (ret P) (fun _ _ _ => False) (ret P)) :=
  (r_seq (rB T0_ok (q2 P)) (r_seq (rB T0_ok (q1 P)) r_ret))
theorem ac (P : PT) (x0 x1 : Value) (H : AHeap) (h : B2 P x0 x1 H) : AC Try.prog T0 174 [x0, x1] H P :=
  r_fn T0_ok (c := code) (n := 9) Try.func174 body (by kernel_rfl) (main P) (En_mk (x0, x1, ()) (by kernel_rfl) ⟨by kernel_rfl, by kernel_rfl, trivial⟩ h)

end F174
-- loop.example/g01329/impl.areAll[loop.example/g01329/impl.Edge]$1
namespace F175
noncomputable def ret (P : PT) : EP := retE T0 8 Try.f175 P
abbrev k0 : Sk := [(1,.v),(2,.x)]
noncomputable def o1 := ob Try.f175 [.r,.l]
def B1 (P : PT) (x1 : Value) (x2 : Nat) (H : AHeap) : Prop :=
  asP x1 (fun b1 o2 => ld1 H b1 o2 (fun v3 => ldI .i64 H x2 0 (fun v4 => ldI .i64 H x2 1 (fun v5 => callV Try.prog T0 v3 [(Value.agg ⟨[(Value.int .i64 v4), (Value.int .i64 v5)]⟩)] H (fun v6 H7 => asB v6 (fun v8 => P (Value.bool (!v8)) H7))))))
theorem q1 (P : PT) : QB Try.prog T0 8 o1 (ret P) k0 (B1 P) := fun _ _ _ _  => by kernel_rfl
abbrev k1 : Sk := [(0,.g [.i,.i]),(1,.v)]
noncomputable def o2 := ob Try.f175 [.l]
def B2 (P : PT) (x0a x0b : Int) (x1 : Value) (H : AHeap) : Prop :=
  newK H [(Value.int .i64 x0a), (Value.int .i64 x0b)] 67 (fun b1 H2 => B1 P x1 b1 H2)
theorem q2 (P : PT) : QB Try.prog T0 8 o2 (En 8 k0 (B1 P)) k1 (B2 P) := fun _ _ _ _ _  => by kernel_rfl
noncomputable def code : Code := (.seq (.region 0 ⟨o2⟩ false) (.seq (.region 1 ⟨o1⟩ false) .ret))
theorem body : Try.f175.body = some code := by kernel_rfl
theorem main (P : PT) : ∀ env H, (En 8 k1 (B2 P)) env H → AW Try.prog T0 code env H (mkQ (ret P) (fun _ _ _ => False) (ret P)) :=
  (r_seq (rB T0_ok (q2 P)) (r_seq (rB T0_ok (q1 P)) r_ret))
theorem ac (P : PT) (x0a x0b : Int) (x1 : Value) (H : AHeap) (h : B2 P x0a x0b x1 H) : AC Try.prog T0 175 [(Value.agg ⟨[(Value.int .i64 x0a), (Value.int .i64 x0b)]⟩), x1] H P :=
  r_fn T0_ok (c := code) (n := 8) Try.func175 body (by kernel_rfl) (main P) (En_mk (x0a, x0b, x1, ()) (by kernel_rfl) ⟨by kernel_rfl, by kernel_rfl, trivial⟩ h)

end F175
-- loop.example/g01329/impl.isCubic$1
namespace F176
noncomputable def ret (P : PT) : EP := retE T0 5 Try.f176 P
abbrev k0 : Sk := [(0,.i .i64)]
noncomputable def o1 := ob Try.f176 [.r,.l]
def B1 (P : PT) (x0 : Int) (H : AHeap) : Prop :=
  P (Value.bool ((x0 : Int) == 3)) H
theorem q1 (P : PT) : QB Try.prog T0 5 o1 (ret P) k0 (B1 P) := fun _ _ _  => by kernel_rfl
noncomputable def o2 := ob Try.f176 [.l]
def B2 (P : PT) (x0 : Int) (H : AHeap) : Prop :=
  B1 P x0 H
theorem q2 (P : PT) : QB Try.prog T0 5 o2 (En 5 k0 (B1 P)) k0 (B2 P) := fun _ _ _  => by kernel_rfl
noncomputable def code : Code := (.seq (.region 0 ⟨o2⟩ false) (.seq (.region 1 ⟨o1⟩ false) .ret))
theorem body : Try.f176.body = some code := by kernel_rfl
theorem main (P : PT) : ∀ env H, (En 5 k0 (B2 P)) env H → AW Try.prog T0 code env H (mkQ (ret P) (fun _ _ _ => False) (ret P)) :=
  (r_seq (rB T0_ok (q2 P)) (r_seq (rB T0_ok (q1 P)) r_ret))
theorem ac (P : PT) (x0 : Int) (H : AHeap) (h : B2 P x0 H) : AC Try.prog T0 176 [(Value.int .i64 x0)] H P :=
  r_fn T0_ok (c := code) (n := 5) Try.func176 body (by kernel_rfl) (main P) (En_mk (x0, ()) (by kernel_rfl) ⟨by kernel_rfl, trivial⟩ h)

end F176
-- slices.IndexFunc[[]int,int]
namespace F179
noncomputable def ret (P : PT) : EP := retE T0 19 Try.f179 P
abbrev k0 : Sk := []
noncomputable def o1 := ob Try.f179 [.r,.r,.l]
def B1 (P : PT) (H : AHeap) : Prop :=
  P (Value.int .i64 (-1)) H
theorem q1 (P : PT) : QB Try.prog T0 19 o1 (ret P) k0 (B1 P) := fun _ _  => by kernel_rfl
abbrev k1 : Sk := [(0,.v),(1,.v),(7,.i .i64),(8,.i .i64)]
noncomputable def o3 := ob Try.f179 [.r,.l,.r,.l,.l,.r,.r,.r]
def B3 (P : PT) (N2 : NTy k1 Pr) (x0 x1 : Value) (x7 x8 : Int) (H : AHeap) : Prop :=
  N2 x0 x1 x7 (IntKind.i64.wrap (x8 + 1)) H
theorem q3 (P : PT) (N2 : NTy k1 Pr) : QB Try.prog T0 19 o3 (En 19 k1 N2) k1 (B3 P N2) := fun _ _ _ _ _ _  => by kernel_rfl
abbrev k2 : Sk := [(5,.i .i64)]
noncomputable def o4 := ob Try.f179 [.r,.l,.r,.l,.l,.r,.r,.l,.l,.r,.r,.l,.l]
def B4 (P : PT) (N2 : NTy k1 Pr) (x5 : Int) (H : AHeap) : Prop :=
  P (Value.int .i64 x5) H
theorem q4 (P : PT) (N2 : NTy k1 Pr) : QB Try.prog T0 19 o4 (ret P) k2 (B4 P N2) := fun _ _ _  => by kernel_rfl
abbrev k3 : Sk := [(0,.v),(1,.v),(5,.i .i64),(7,.i .i64),(8,.i .i64)]
noncomputable def o5 := ob Try.f179 [.r,.l,.r,.l,.l,.r,.r,.l,.l,.r,.l]
def B5 (P : PT) (N2 : NTy k1 Pr) (x0 x1 : Value) (x5 x7 x8 : Int) (H : AHeap) : Prop :=
  idxK x0 x5 1 (fun b1 o2 => ldI .i64 H b1 o2 (fun v3 => callV Try.prog T0 x1 [(Value.int .i64 v3)] H (fun v4 H5 => asB v4 (fun v6 => pif v6 (B4 P N2 x5 H5) (B3 P N2 x0 x1 x7 x8 H5)))))
theorem q5 (P : PT) (N2 : NTy k1 Pr) : QB Try.prog T0 19 o5 (cnd 16 (En 19 k2 (B4 P N2)) (En 19 k1 (B3 P N2))) k3 (B5 P N2) := fun _ _ _ _ _ _ _  => by kernel_rfl
noncomputable def o6 := ob Try.f179 [.r,.l,.r,.l,.l,.r,.r,.l,.l,.l]
def B6 (P : PT) (N2 : NTy k1 Pr) (x0 x1 : Value) (x7 x8 : Int) (H : AHeap) : Prop :=
  B5 P N2 x0 x1 x8 x7 x8 H
theorem q6 (P : PT) (N2 : NTy k1 Pr) : QB Try.prog T0 19 o6 (En 19 k3 (B5 P N2)) k1 (B6 P N2) := fun _ _ _ _ _ _  => by kernel_rfl
noncomputable def o7 := ob Try.f179 [.r,.l,.r,.l,.l,.l]
def B7 (P : PT) (N2 : NTy k1 Pr) (x0 x1 : Value) (x7 x8 : Int) (H : AHeap) : Prop :=
  pif (decide ((x8 : Int) < x7)) (B6 P N2 x0 x1 x7 x8 H) (B1 P H)
theorem q7 (P : PT) (N2 : NTy k1 Pr) : QB Try.prog T0 19 o7 (cnd 9 (En 19 k1 (B6 P N2)) (En 19 k0 (B1 P))) k1 (B7 P N2) := fun _ _ _ _ _ _  => by kernel_rfl
def L2 (P : PT) (x0 x1 : Value) (x7 x8 : Int) (H : AHeap) : Prop :=
  ∃ (I : NTy k1 Pr) (μ : NTy k1 (AHeap → Nat)), I x0 x1 x7 x8 H ∧ ∀ y0 y1 y7 y8 G, I y0 y1 y7 y8 G → B7 P (fun z0 z1 z7 z8 G' => I z0 z1 z7 z8 G' ∧ μ z0 z1 z7 z8 G' < μ y0 y1 y7 y8 G) y0 y1 y7 y8 G
theorem l2 (P : PT) : LQ k1 (L2 P) (B7 P) := fun ⟨_,_,_,_,_⟩ _ ⟨I, μ, h0, hI⟩ => ⟨apT _ I, apT _ μ, h0, fun ⟨_,_,_,_,_⟩ _ h => hI _ _ _ _ _  h⟩
abbrev k4 : Sk := [(0,.v),(1,.v)]
noncomputable def o8 := ob Try.f179 [.r,.l,.l]
def B8 (P : PT) (x0 x1 : Value) (H : AHeap) : Prop :=
  lenK x0 (fun n1 => L2 P x0 x1 (n1 : Int) 0 H)
theorem q8 (P : PT) : QB Try.prog T0 19 o8 (En 19 k1 (L2 P)) k4 (B8 P) := fun _ _ _ _  => by kernel_rfl
noncomputable def o9 := ob Try.f179 [.l]
def B9 (P : PT) (x0 x1 : Value) (H : AHeap) : Prop :=
  B8 P x0 x1 H
theorem q9 (P : PT) : QB Try.prog T0 19 o9 (En 19 k4 (B8 P)) k4 (B9 P) := fun _ _ _ _  => by kernel_rfl
noncomputable def code : Code := (.seq (.region 0 ⟨o9⟩ false) (.seq (.seq (.region 1 ⟨o8⟩ false) (.block 0 (.loop (.seq (.region 2 ⟨o7⟩ false) (.seq (.cond (.tmp 9) .skip (.exit 0)) (.seq (.block 1 (.seq (.region 3 ⟨o6⟩ false) (.seq (.region 4 ⟨o5⟩ false) (.cond (.tmp 16) (.seq (.region 5 ⟨o4⟩ false) .ret) .skip)))) (.region 6 ⟨o3⟩ false))))))) (.seq (.region 7 ⟨o1⟩ false) .ret)))
theorem body : Try.f179.body = some code := by kernel_rfl
theorem main (P : PT) : ∀ env H, (En 19 k4 (B9 P)) env H → AW Try.prog T0 code env H (mkQ (ret P) (fun _ _ _ => False) (ret P)) :=
  (r_seq (rB T0_ok (q9 P)) (r_seq (r_seq (rB T0_ok (q8 P)) (r_block (rL (l2 P) (fun N2 => (r_seq (rB T0_ok (q7 P N2)) (r_seq (r_cond rfl r_skip (r_exit (fun _ _ h => h))) (r_seq (r_block (r_seq (rB T0_ok (q6 P N2)) (r_seq (rB T0_ok (q5 P N2)) (r_cond rfl (r_seq (rB T0_ok (q4 P N2)) r_ret) r_skip)))) (rB T0_ok (q3 P N2))))))))) (r_seq (rB T0_ok (q1 P)) r_ret)))
theorem ac (P : PT) (x0 x1 : Value) (H : AHeap) (h : B9 P x0 x1 H) : AC Try.prog T0 179 [x0, x1] H P :=
  r_fn T0_ok (c := code) (n := 19) Try.func179 body (by kernel_rfl) (main P) (En_mk (x0, x1, ()) (by kernel_rfl) ⟨by kernel_rfl, by kernel_rfl, trivial⟩ h)

end F179
-- slices.IndexFunc[[]loop.example/g01329/impl.Edge,loop.example/g01329/impl.Edge]
namespace F181
noncomputable def ret (P : PT) : EP := retE T0 19 Try.f181 P
abbrev k0 : Sk := []
noncomputable def o1 := ob Try.f181 [.r,.r,.l]
def B1 (P : PT) (H : AHeap) : Prop :=
  P (Value.int .i64 (-1)) H
theorem q1 (P : PT) : QB Try.prog T0 19 o1 (ret P) k0 (B1 P) := fun _ _  => by kernel_rfl
abbrev k1 : Sk := [(0,.v),(1,.v),(7,.i .i64),(8,.i .i64)]
noncomputable def o3 := ob Try.f181 [.r,.l,.r,.l,.l,.r,.r,.r]
def B3 (P : PT) (N2 : NTy k1 Pr) (x0 x1 : Value) (x7 x8 : Int) (H : AHeap) : Prop :=
  N2 x0 x1 x7 (IntKind.i64.wrap (x8 + 1)) H
theorem q3 (P : PT) (N2 : NTy k1 Pr) : QB Try.prog T0 19 o3 (En 19 k1 N2) k1 (B3 P N2) := fun _ _ _ _ _ _  => by kernel_rfl
abbrev k2 : Sk := [(5,.i .i64)]
noncomputable def o4 := ob Try.f181 [.r,.l,.r,.l,.l,.r,.r,.l,.l,.r,.r,.l,.l]
def B4 (P : PT) (N2 : NTy k1 Pr) (x5 : Int) (H : AHeap) : Prop :=
  P (Value.int .i64 x5) H
theorem q4 (P : PT) (N2 : NTy k1 Pr) : QB Try.prog T0 19 o4 (ret P) k2 (B4 P N2) := fun _ _ _  => by kernel_rfl
abbrev k3 : Sk := [(0,.v),(1,.v),(5,.i .i64),(7,.i .i64),(8,.i .i64)]
noncomputable def o5 := ob Try.f181 [.r,.l,.r,.l,.l,.r,.r,.l,.l,.r,.l]
def B5 (P : PT) (N2 : NTy k1 Pr) (x0 x1 : Value) (x5 x7 x8 : Int) (H : AHeap) : Prop :=
  idxK x0 x5 2 (fun b1 o2 => ldI .i64 H b1 o2 (fun v3 => ldI .i64 H b1 (o2 + 1) (fun v4 => callV Try.prog T0 x1 [(Value.agg ⟨[(Value.int .i64 v3), (Value.int .i64 v4)]⟩)] H (fun v5 H6 => asB v5 (fun v7 => pif v7 (B4 P N2 x5 H6) (B3 P N2 x0 x1 x7 x8 H6))))))
theorem q5 (P : PT) (N2 : NTy k1 Pr) : QB Try.prog T0 19 o5 (cnd 16 (En 19 k2 (B4 P N2)) (En 19 k1 (B3 P N2))) k3 (B5 P N2) := fun _ _ _ _ _ _ _  => by kernel_rfl
noncomputable def o6 := ob Try.f181 [.r,.l,.r,.l,.l,.r,.r,.l,.l,.l]
def B6 (P : PT) (N2 : NTy k1 Pr) (x0 x1 : Value) (x7 x8 : Int) (H : AHeap) : Prop :=
  B5 P N2 x0 x1 x8 x7 x8 H
theorem q6 (P : PT) (N2 : NTy k1 Pr) : QB Try.prog T0 19 o6 (En 19 k3 (B5 P N2)) k1 (B6 P N2) := fun _ _ _ _ _ _  => by kernel_rfl
noncomputable def o7 := ob Try.f181 [.r,.l,.r,.l,.l,.l]
def B7 (P : PT) (N2 : NTy k1 Pr) (x0 x1 : Value) (x7 x8 : Int) (H : AHeap) : Prop :=
  pif (decide ((x8 : Int) < x7)) (B6 P N2 x0 x1 x7 x8 H) (B1 P H)
theorem q7 (P : PT) (N2 : NTy k1 Pr) : QB Try.prog T0 19 o7 (cnd 9 (En 19 k1 (B6 P N2)) (En 19 k0 (B1 P))) k1 (B7 P N2) := fun _ _ _ _ _ _  => by kernel_rfl
def L2 (P : PT) (x0 x1 : Value) (x7 x8 : Int) (H : AHeap) : Prop :=
  ∃ (I : NTy k1 Pr) (μ : NTy k1 (AHeap → Nat)), I x0 x1 x7 x8 H ∧ ∀ y0 y1 y7 y8 G, I y0 y1 y7 y8 G → B7 P (fun z0 z1 z7 z8 G' => I z0 z1 z7 z8 G' ∧ μ z0 z1 z7 z8 G' < μ y0 y1 y7 y8 G) y0 y1 y7 y8 G
theorem l2 (P : PT) : LQ k1 (L2 P) (B7 P) := fun ⟨_,_,_,_,_⟩ _ ⟨I, μ, h0, hI⟩ => ⟨apT _ I, apT _ μ, h0, fun ⟨_,_,_,_,_⟩ _ h => hI _ _ _ _ _  h⟩
abbrev k4 : Sk := [(0,.v),(1,.v)]
noncomputable def o8 := ob Try.f181 [.r,.l,.l]
def B8 (P : PT) (x0 x1 : Value) (H : AHeap) : Prop :=
  lenK x0 (fun n1 => L2 P x0 x1 (n1 : Int) 0 H)
theorem q8 (P : PT) : QB Try.prog T0 19 o8 (En 19 k1 (L2 P)) k4 (B8 P) := fun _ _ _ _  => by kernel_rfl
noncomputable def o9 := ob Try.f181 [.l]
def B9 (P : PT) (x0 x1 : Value) (H : AHeap) : Prop :=
  B8 P x0 x1 H
theorem q9 (P : PT) : QB Try.prog T0 19 o9 (En 19 k4 (B8 P)) k4 (B9 P) := fun _ _ _ _  => by kernel_rfl
noncomputable def code : Code := (.seq (.region 0 ⟨o9⟩ false) (.seq (.seq (.region 1 ⟨o8⟩ false) (.block 0 (.loop (.seq (.region 2 ⟨o7⟩ false) (.seq (.cond (.tmp 9) .skip (.exit 0)) (.seq (.block 1 (.seq (.region 3 ⟨o6⟩ false) (.seq (.region 4 ⟨o5⟩ false) (.cond (.tmp 16) (.seq (.region 5 ⟨o4⟩ false) .ret) .skip)))) (.region 6 ⟨o3⟩ false))))))) (.seq (.region 7 ⟨o1⟩ false) .ret)))
theorem body : Try.f181.body = some code := by kernel_rfl
theorem main (P : PT) : ∀ env H, (En 19 k4 (B9 P)) env H → AW Try.prog T0 code env H (mkQ (ret P) (fun _ _ _ => False) (ret P)) :=
  (r_seq (rB T0_ok (q9 P)) (r_seq (r_seq (rB T0_ok (q8 P)) (r_block (rL (l2 P) (fun N2 => (r_seq (rB T0_ok (q7 P N2)) (r_seq (r_cond rfl r_skip (r_exit (fun _ _ h => h))) (r_seq (r_block (r_seq (rB T0_ok (q6 P N2)) (r_seq (rB T0_ok (q5 P N2)) (r_cond rfl (r_seq (rB T0_ok (q4 P N2)) r_ret) r_skip)))) (rB T0_ok (q3 P N2))))))))) (r_seq (rB T0_ok (q1 P)) r_ret)))
theorem ac (P : PT) (x0 x1 : Value) (H : AHeap) (h : B9 P x0 x1 H) : AC Try.prog T0 181 [x0, x1] H P :=
  r_fn T0_ok (c := code) (n := 19) Try.func181 body (by kernel_rfl) (main P) (En_mk (x0, x1, ()) (by kernel_rfl) ⟨by kernel_rfl, by kernel_rfl, trivial⟩ h)

end F181
-- cmp.isNaN[int64]
namespace F188
noncomputable def ret (P : PT) : EP := retE T0 6 Try.f188 P
abbrev k0 : Sk := [(0,.i .i64)]
noncomputable def o1 := ob Try.f188 [.r,.l]
def B1 (P : PT) (x0 : Int) (H : AHeap) : Prop :=
  P (Value.bool ((x0 : Int) != x0)) H
theorem q1 (P : PT) : QB Try.prog T0 6 o1 (ret P) k0 (B1 P) := fun _ _ _  => by kernel_rfl
noncomputable def o2 := ob Try.f188 [.l]
def B2 (P : PT) (x0 : Int) (H : AHeap) : Prop :=
  B1 P x0 H
theorem q2 (P : PT) : QB Try.prog T0 6 o2 (En 6 k0 (B1 P)) k0 (B2 P) := fun _ _ _  => by kernel_rfl
noncomputable def code : Code := (.seq (.region 0 ⟨o2⟩ false) (.seq (.region 1 ⟨o1⟩ false) .ret))
theorem body : Try.f188.body = some code := by kernel_rfl
theorem main (P : PT) : ∀ env H, (En 6 k0 (B2 P)) env H → AW Try.prog T0 code env H (mkQ (ret P) (fun _ _ _ => False) (ret P)) :=
  (r_seq (rB T0_ok (q2 P)) (r_seq (rB T0_ok (q1 P)) r_ret))
theorem ac (P : PT) (x0 : Int) (H : AHeap) (h : B2 P x0 H) : AC Try.prog T0 188 [(Value.int .i64 x0)] H P :=
  r_fn T0_ok (c := code) (n := 6) Try.func188 body (by kernel_rfl) (main P) (En_mk (x0, ()) (by kernel_rfl) ⟨by kernel_rfl, trivial⟩ h)

end F188
end Go.Proofs
