import Derived.Test.YtfcflpcmjlbedabT
set_option linter.unusedVariables false
set_option maxRecDepth 100000
namespace Go.Proofs
open Go.Abs
-- loop.example/g01329/spec.l02Fits
namespace F175
noncomputable def ret (P : PT) : EP := retE T0 46 Try.f175 P
abbrev k0 : Sk := []
noncomputable def o1 := ob Try.f175 [.r,.r,.l]
def B1 (P : PT) (H : AHeap) : Prop :=
  P (Value.bool true) H
theorem q1 (P : PT) : QB Try.prog T0 46 o1 (ret P) k0 (B1 P) := fun _ _  => by kernel_rfl
abbrev k1 : Sk := [(1,.v),(2,.i .i64),(3,.i .i64),(4,.x),(9,.i .i64)]
noncomputable def o3 := ob Try.f175 [.r,.l,.r,.l,.l,.r,.r]
def B3 (P : PT) (N2 : NTy k1 Pr) (x1 : Value) (x2 x3 : Int) (x4 : Nat) (x9 : Int) (H : AHeap) : Prop :=
  N2 x1 x2 x3 x4 (IntKind.i64.wrap (x9 + 1)) H
theorem q3 (P : PT) (N2 : NTy k1 Pr) : QB Try.prog T0 46 o3 (En 46 k1 N2) k1 (B3 P N2) := fun _ _ _ _ _ _ _  => by kernel_rfl
abbrev k2 : Sk := [(1,.v),(2,.i .i64),(3,.i .i64),(4,.x),(9,.i .i64),(10,.v),(11,.i .i64)]
noncomputable def o5 := ob Try.f175 [.r,.l,.r,.l,.l,.r,.l,.l,.r,.r,.l,.l,.r,.r]
def B5 (P : PT) (N2 : NTy k1 Pr) (N4 : NTy k2 Pr) (x1 : Value) (x2 x3 : Int) (x4 : Nat) (x9 : Int) (x10 : Value) (x11 : Int) (H : AHeap) : Prop :=
  N4 x1 x2 x3 x4 x9 x10 (IntKind.i64.wrap (x11 + 1)) H
theorem q5 (P : PT) (N2 : NTy k1 Pr) (N4 : NTy k2 Pr) : QB Try.prog T0 46 o5 (En 46 k2 N4) k2 (B5 P N2 N4) := fun _ _ _ _ _ _ _ _ _  => by kernel_rfl
noncomputable def o6 := ob Try.f175 [.r,.l,.r,.l,.l,.r,.l,.l,.r,.r,.l,.l,.r,.l,.l,.r,.l,.l]
def B6 (P : PT) (N2 : NTy k1 Pr) (N4 : NTy k2 Pr) (H : AHeap) : Prop :=
  P (Value.bool false) H
theorem q6 (P : PT) (N2 : NTy k1 Pr) (N4 : NTy k2 Pr) : QB Try.prog T0 46 o6 (ret P) k0 (B6 P N2 N4) := fun _ _  => by kernel_rfl
noncomputable def o7 := ob Try.f175 [.r,.l,.r,.l,.l,.r,.l,.l,.r,.r,.l,.l,.r,.l,.l,.l]
def B7 (P : PT) (N2 : NTy k1 Pr) (N4 : NTy k2 Pr) (x1 : Value) (x2 x3 : Int) (x4 : Nat) (x9 : Int) (x10 : Value) (x11 : Int) (H : AHeap) : Prop :=
  idxK x10 x11 1 (fun b1 o2 => ldI .i64 H b1 o2 (fun v3 => pif (decide ((v3 : Int) < x2)) (idxK x10 x11 1 (fun b4 o5 => ldI .i64 H b4 o5 (fun v6 => idxK x1 v6 1 (fun b7 o8 => ldI .i64 H b7 o8 (fun v9 => pif ((v9 : Int) == x3) (B6 P N2 N4 H) (B5 P N2 N4 x1 x2 x3 x4 x9 x10 x11 H)))))) (B5 P N2 N4 x1 x2 x3 x4 x9 x10 x11 H)))
theorem q7 (P : PT) (N2 : NTy k1 Pr) (N4 : NTy k2 Pr) : QB Try.prog T0 46 o7 (cnd 45 (En 46 k0 (B6 P N2 N4)) (En 46 k2 (B5 P N2 N4))) k2 (B7 P N2 N4) := fun _ _ _ _ _ _ _ _ _  => by kernel_rfl
noncomputable def o8 := ob Try.f175 [.r,.l,.r,.l,.l,.r,.l,.l,.r,.r,.l,.l,.l,.l]
def B8 (P : PT) (N2 : NTy k1 Pr) (N4 : NTy k2 Pr) (x1 : Value) (x2 x3 : Int) (x4 : Nat) (x9 : Int) (x10 : Value) (x11 : Int) (H : AHeap) : Prop :=
  pif (decide ((x11 : Int) < 3)) (B7 P N2 N4 x1 x2 x3 x4 x9 x10 x11 H) (B3 P N2 x1 x2 x3 x4 x9 H)
theorem q8 (P : PT) (N2 : NTy k1 Pr) (N4 : NTy k2 Pr) : QB Try.prog T0 46 o8 (cnd 26 (En 46 k2 (B7 P N2 N4)) (En 46 k1 (B3 P N2))) k2 (B8 P N2 N4) := fun _ _ _ _ _ _ _ _ _  => by kernel_rfl
def L4 (P : PT) (N2 : NTy k1 Pr) (x1 : Value) (x2 x3 : Int) (x4 : Nat) (x9 : Int) (x10 : Value) (x11 : Int) (H : AHeap) : Prop :=
  ∃ (I : NTy k2 Pr) (μ : NTy k2 (AHeap → Nat)), I x1 x2 x3 x4 x9 x10 x11 H ∧ ∀ y1 y2 y3 y4 y9 y10 y11 G, I y1 y2 y3 y4 y9 y10 y11 G → B8 P N2 (fun z1 z2 z3 z4 z9 z10 z11 G' => I z1 z2 z3 z4 z9 z10 z11 G' ∧ μ z1 z2 z3 z4 z9 z10 z11 G' < μ y1 y2 y3 y4 y9 y10 y11 G) y1 y2 y3 y4 y9 y10 y11 G
theorem l4 (P : PT) (N2 : NTy k1 Pr) : LQ k2 (L4 P N2) (B8 P N2) := fun ⟨_,_,_,_,_,_,_,_⟩ _ ⟨I, μ, h0, hI⟩ => ⟨apT _ I, apT _ μ, h0, fun ⟨_,_,_,_,_,_,_,_⟩ _ h => hI _ _ _ _ _ _ _ _  h⟩
abbrev k3 : Sk := [(1,.v),(2,.i .i64),(3,.i .i64),(4,.x),(9,.i .i64),(10,.v)]
noncomputable def o9 := ob Try.f175 [.r,.l,.r,.l,.l,.r,.l,.l,.r,.l]
def B9 (P : PT) (N2 : NTy k1 Pr) (x1 : Value) (x2 x3 : Int) (x4 : Nat) (x9 : Int) (x10 : Value) (H : AHeap) : Prop :=
  L4 P N2 x1 x2 x3 x4 x9 x10 0 H
theorem q9 (P : PT) (N2 : NTy k1 Pr) : QB Try.prog T0 46 o9 (En 46 k2 (L4 P N2)) k3 (B9 P N2) := fun _ _ _ _ _ _ _ _  => by kernel_rfl
noncomputable def o10 := ob Try.f175 [.r,.l,.r,.l,.l,.r,.l,.l,.l]
def B10 (P : PT) (N2 : NTy k1 Pr) (x1 : Value) (x2 x3 : Int) (x4 : Nat) (x9 : Int) (H : AHeap) : Prop :=
  ldI .i64 H x4 0 (fun v1 => ld1 H x4 1 (fun v2 => ld1 H x4 1 (fun v3 => idxK v3 x2 2 (fun b4 o5 => bndK x9 2 (ldI .i64 H b4 (o5 + Int.toNat x9 * 1) (fun v6 => AC Try.prog T0 49 [(Value.agg ⟨[(Value.int .i64 v1), v2]⟩), (Value.int .i64 v6)] H (fun v7 H8 => B9 P N2 x1 x2 x3 x4 x9 v7 H8)))))))
theorem q10 (P : PT) (N2 : NTy k1 Pr) : QD Try.prog T0 46 o10 [(0, false), (1, false), (2, false), (3, false), (4, false), (5, false), (6, false), (7, false), (8, false), (9, false)] (En 46 k3 (B9 P N2)) k1 (B10 P N2) := fun _ _ _ _ _ _ _  => by kernel_rfl
noncomputable def o11 := ob Try.f175 [.r,.l,.r,.l,.l,.l,.l]
def B11 (P : PT) (N2 : NTy k1 Pr) (x1 : Value) (x2 x3 : Int) (x4 : Nat) (x9 : Int) (H : AHeap) : Prop :=
  pif (decide ((x9 : Int) < 2)) (B10 P N2 x1 x2 x3 x4 x9 H) (B1 P H)
theorem q11 (P : PT) (N2 : NTy k1 Pr) : QB Try.prog T0 46 o11 (cnd 13 (En 46 k1 (B10 P N2)) (En 46 k0 (B1 P))) k1 (B11 P N2) := fun _ _ _ _ _ _ _  => by kernel_rfl
def L2 (P : PT) (x1 : Value) (x2 x3 : Int) (x4 : Nat) (x9 : Int) (H : AHeap) : Prop :=
  ∃ (I : NTy k1 Pr) (μ : NTy k1 (AHeap → Nat)), I x1 x2 x3 x4 x9 H ∧ ∀ y1 y2 y3 y4 y9 G, I y1 y2 y3 y4 y9 G → B11 P (fun z1 z2 z3 z4 z9 G' => I z1 z2 z3 z4 z9 G' ∧ μ z1 z2 z3 z4 z9 G' < μ y1 y2 y3 y4 y9 G) y1 y2 y3 y4 y9 G
theorem l2 (P : PT) : LQ k1 (L2 P) (B11 P) := fun ⟨_,_,_,_,_,_⟩ _ ⟨I, μ, h0, hI⟩ => ⟨apT _ I, apT _ μ, h0, fun ⟨_,_,_,_,_,_⟩ _ h => hI _ _ _ _ _ _  h⟩
abbrev k4 : Sk := [(1,.v),(2,.i .i64),(3,.i .i64),(4,.x)]
noncomputable def o12 := ob Try.f175 [.r,.l,.l]
def B12 (P : PT) (x1 : Value) (x2 x3 : Int) (x4 : Nat) (H : AHeap) : Prop :=
  L2 P x1 x2 x3 x4 0 H
theorem q12 (P : PT) : QB Try.prog T0 46 o12 (En 46 k1 (L2 P)) k4 (B12 P) := fun _ _ _ _ _ _  => by kernel_rfl
abbrev k5 : Sk := [(0,.g [.i,.v]),(1,.v),(2,.i .i64),(3,.i .i64)]
noncomputable def o13 := ob Try.f175 [.l]
def B13 (P : PT) (x0a : Int) (x0b x1 : Value) (x2 x3 : Int) (H : AHeap) : Prop :=
  newK H [(Value.int .i64 x0a), x0b] 32 (fun b1 H2 => B12 P x1 x2 x3 b1 H2)
theorem q13 (P : PT) : QB Try.prog T0 46 o13 (En 46 k4 (B12 P)) k5 (B13 P) := fun _ _ _ _ _ _ _  => by kernel_rfl
noncomputable def code : Code := (.seq (.region 0 ⟨o13⟩ false) (.seq (.seq (.region 1 ⟨o12⟩ false) (.block 0 (.loop (.seq (.seq (.region 2 ⟨o11⟩ false) (.cond (.tmp 13) .skip (.exit 0))) (.seq (.block 1 (.seq (.region 4 ⟨o10⟩ true) (.seq (.region 5 ⟨o9⟩ false) (.block 2 (.loop (.seq (.seq (.region 6 ⟨o8⟩ false) (.cond (.tmp 26) .skip (.exit 2))) (.seq (.block 3 (.seq (.region 8 ⟨o7⟩ false) (.cond (.tmp 45) (.seq (.region 9 ⟨o6⟩ false) .ret) .skip))) (.region 7 ⟨o5⟩ false)))))))) (.region 3 ⟨o3⟩ false)))))) (.seq (.region 10 ⟨o1⟩ false) .ret)))
theorem body : Try.f175.body = some code := by kernel_rfl
theorem main (P : PT) : ∀ env H, (En 46 k5 (B13 P)) env H → AW Try.prog T0 code env H (mkQ (ret P) (fun _ _ _ => False) (ret P)) :=
  (r_seq (rB T0_ok (q13 P)) (r_seq (r_seq (rB T0_ok (q12 P)) (r_block (rL (l2 P) (fun N2 => (r_seq (r_seq (rB T0_ok (q11 P N2)) (r_cond rfl r_skip (r_exit (fun _ _ h => h)))) (r_seq (r_block (r_seq (rD T0_ok mixed [(0, false), (1, false), (2, false), (3, false), (4, false), (5, false), (6, false), (7, false), (8, false), (9, false)] (by kernel_rfl) (q10 P N2)) (r_seq (rB T0_ok (q9 P N2)) (r_block (rL (l4 P N2) (fun N4 => (r_seq (r_seq (rB T0_ok (q8 P N2 N4)) (r_cond rfl r_skip (r_exit (fun _ _ h => h)))) (r_seq (r_block (r_seq (rB T0_ok (q7 P N2 N4)) (r_cond rfl (r_seq (rB T0_ok (q6 P N2 N4)) r_ret) r_skip))) (rB T0_ok (q5 P N2 N4)))))))))) (rB T0_ok (q3 P N2)))))))) (r_seq (rB T0_ok (q1 P)) r_ret)))
theorem ac (P : PT) (x0a : Int) (x0b x1 : Value) (x2 x3 : Int) (H : AHeap) (h : B13 P x0a x0b x1 x2 x3 H) : AC Try.prog T0 175 [(Value.agg ⟨[(Value.int .i64 x0a), x0b]⟩), x1, (Value.int .i64 x2), (Value.int .i64 x3)] H P :=
  r_fn T0_ok (c := code) (n := 46) Try.func175 body (by kernel_rfl) (main P) (En_mk (x0a, x0b, x1, x2, x3, ()) (by kernel_rfl) ⟨by kernel_rfl, by kernel_rfl, by kernel_rfl, by kernel_rfl, trivial⟩ h)

end F175
-- slices.Repeat[[]int64,int64]
namespace F176
noncomputable def ret (P : PT) : EP := retE T0 48 Try.f176 P
abbrev k0 : Sk := [(7,.v)]
noncomputable def o1 := ob Try.f176 [.r,.r,.r,.r,.r,.r,.r,.l]
def B1 (P : PT) (x7 : Value) (H : AHeap) : Prop :=
  P x7 H
theorem q1 (P : PT) : QB Try.prog T0 48 o1 (ret P) k0 (B1 P) := fun _ _ _  => by kernel_rfl
abbrev k1 : Sk := [(7,.v),(8,.i .i64)]
noncomputable def o3 := ob Try.f176 [.r,.r,.r,.r,.r,.r,.l,.l,.l,.r,.l]
def B3 (P : PT) (N2 : NTy k1 Pr) (x7 : Value) (x8 : Int) (H : AHeap) : Prop :=
  sliceK H 2 x7 (some (Value.int .i64 x8)) none 1 (fun v1 => sliceK H 2 x7 none (some (Value.int .i64 x8)) 1 (fun v2 => cpK T0 2 H v1 v2 (fun n3 H4 => N2 x7 (IntKind.i64.wrap (x8 + (n3 : Int))) H4)))
theorem q3 (P : PT) (N2 : NTy k1 Pr) : QD Try.prog T0 48 o3 [(0, false), (1, false), (2, false), (3, false), (4, false), (5, false), (6, false), (7, false), (8, false), (9, false)] (En 48 k1 N2) k1 (B3 P N2) := fun _ _ _ _  => by kernel_rfl
noncomputable def o4 := ob Try.f176 [.r,.r,.r,.r,.r,.r,.l,.l,.l,.l,.l]
def B4 (P : PT) (N2 : NTy k1 Pr) (x7 : Value) (x8 : Int) (H : AHeap) : Prop :=
  lenK x7 (fun n1 => pif (decide ((x8 : Int) < (n1 : Int))) (B3 P N2 x7 x8 H) (B1 P x7 H))
theorem q4 (P : PT) (N2 : NTy k1 Pr) : QB Try.prog T0 48 o4 (cnd 37 (En 48 k1 (B3 P N2)) (En 48 k0 (B1 P))) k1 (B4 P N2) := fun _ _ _ _  => by kernel_rfl
def L2 (P : PT) (x7 : Value) (x8 : Int) (H : AHeap) : Prop :=
  ∃ (I : NTy k1 Pr) (μ : NTy k1 (AHeap → Nat)), I x7 x8 H ∧ ∀ y7 y8 G, I y7 y8 G → B4 P (fun z7 z8 G' => I z7 z8 G' ∧ μ z7 z8 G' < μ y7 y8 G) y7 y8 G
theorem l2 (P : PT) : LQ k1 (L2 P) (B4 P) := fun ⟨_,_,_⟩ _ ⟨I, μ, h0, hI⟩ => ⟨apT _ I, apT _ μ, h0, fun ⟨_,_,_⟩ _ h => hI _ _ _  h⟩
abbrev k2 : Sk := [(0,.v),(7,.v)]
noncomputable def o5 := ob Try.f176 [.r,.r,.r,.r,.r,.l]
def B5 (P : PT) (x0 x7 : Value) (H : AHeap) : Prop :=
  cpK T0 2 H x7 x0 (fun n1 H2 => L2 P x7 (n1 : Int) H2)
theorem q5 (P : PT) : QB Try.prog T0 48 o5 (En 48 k1 (L2 P)) k2 (B5 P) := fun _ _ _ _  => by kernel_rfl
abbrev k3 : Sk := [(0,.v),(6,.i .u64)]
noncomputable def o6 := ob Try.f176 [.r,.r,.r,.r,.l]
def B6 (P : PT) (x0 : Value) (x6 : Int) (H : AHeap) : Prop :=
  mkR H 8 2 [(Value.int .i64 0)] (IntKind.i64.wrap x6) (IntKind.i64.wrap x6) (fun v2 H1 => B5 P x0 v2 H1)
theorem q6 (P : PT) : QB Try.prog T0 48 o6 (En 48 k2 (B5 P)) k3 (B6 P) := fun _ _ _ _  => by kernel_rfl
abbrev k4 : Sk := [(0,.v),(5,.i .u64),(6,.i .u64)]
noncomputable def o7 := ob Try.f176 [.r,.r,.r,.l,.l]
def B7 (P : PT) (x0 : Value) (x5 x6 : Int) (H : AHeap) : Prop :=
  pif (decide ((x5 : Int) > 0)) (False) (pif (decide ((x6 : Int) > 9223372036854775807)) (False) (B6 P x0 x6 H))
theorem q7 (P : PT) : QB Try.prog T0 48 o7 (cnd 26 (fun _ _ => False) (En 48 k3 (B6 P))) k4 (B7 P) := fun _ _ _ _ _  => by kernel_rfl
abbrev k5 : Sk := [(0,.v),(1,.i .i64)]
noncomputable def o8 := ob Try.f176 [.r,.r,.l]
def B8 (P : PT) (x0 : Value) (x1 : Int) (H : AHeap) : Prop :=
  lenK x0 (fun n1 => AC Try.prog T0 187 [(Value.int .u64 (IntKind.u64.wrap (n1 : Int))), (Value.int .u64 (IntKind.u64.wrap x1))] H (fun v2 H3 => tup2 v2 (fun v4 v5 => asI .u64 v4 (fun v6 => asI .u64 v5 (fun v7 => B7 P x0 v6 v7 H3)))))
theorem q8 (P : PT) : QB Try.prog T0 48 o8 (En 48 k4 (B7 P)) k5 (B8 P) := fun _ _ _ _  => by kernel_rfl
noncomputable def o9 := ob Try.f176 [.r,.l,.l]
def B9 (P : PT) (x0 : Value) (x1 : Int) (H : AHeap) : Prop :=
  pif (decide ((x1 : Int) < 0)) (False) (B8 P x0 x1 H)
theorem q9 (P : PT) : QB Try.prog T0 48 o9 (cnd 10 (fun _ _ => False) (En 48 k5 (B8 P))) k5 (B9 P) := fun _ _ _ _  => by kernel_rfl
noncomputable def o10 := ob Try.f176 [.l]
def B10 (P : PT) (x0 : Value) (x1 : Int) (H : AHeap) : Prop :=
  B9 P x0 x1 H
theorem q10 (P : PT) : QB Try.prog T0 48 o10 (En 48 k5 (B9 P)) k5 (B10 P) := fun _ _ _ _  => by kernel_rfl
noncomputable def code : Code := (.seq (.region 0 ⟨o10⟩ false) (.seq (.seq (.region 1 ⟨o9⟩ false) (.cond (.tmp 10) (codeAt (bodyOf Try.f176) [.r,.l,.r,.l]) .skip)) (.seq (.region 3 ⟨o8⟩ false) (.seq (.seq (.region 4 ⟨o7⟩ false) (.cond (.tmp 26) (codeAt (bodyOf Try.f176) [.r,.r,.r,.l,.r,.l]) .skip)) (.seq (.region 6 ⟨o6⟩ false) (.seq (.region 7 ⟨o5⟩ false) (.seq (.block 0 (.loop (.seq (.seq (.region 8 ⟨o4⟩ false) (.cond (.tmp 37) .skip (.exit 0))) (.block 1 (.region 9 ⟨o3⟩ true))))) (.seq (.region 10 ⟨o1⟩ false) .ret))))))))
theorem body : Try.f176.body = some code := by kernel_rfl
theorem main (P : PT) : ∀ env H, (En 48 k5 (B10 P)) env H → AW Try.prog T0 code env H (mkQ (ret P) (fun _ _ _ => False) (ret P)) :=
  (r_seq (rB T0_ok (q10 P)) (r_seq (r_seq (rB T0_ok (q9 P)) (r_cond rfl r_none r_skip)) (r_seq (rB T0_ok (q8 P)) (r_seq (r_seq (rB T0_ok (q7 P)) (r_cond rfl r_none r_skip)) (r_seq (rB T0_ok (q6 P)) (r_seq (rB T0_ok (q5 P)) (r_seq (r_block (rL (l2 P) (fun N2 => (r_seq (r_seq (rB T0_ok (q4 P N2)) (r_cond rfl r_skip (r_exit (fun _ _ h => h)))) (r_block (rD T0_ok mixed [(0, false), (1, false), (2, false), (3, false), (4, false), (5, false), (6, false), (7, false), (8, false), (9, false)] (by kernel_rfl) (q3 P N2))))))) (r_seq (rB T0_ok (q1 P)) r_ret))))))))
theorem ac (P : PT) (x0 : Value) (x1 : Int) (H : AHeap) (h : B10 P x0 x1 H) : AC Try.prog T0 176 [x0, (Value.int .i64 x1)] H P :=
  r_fn T0_ok (c := code) (n := 48) Try.func176 body (by kernel_rfl) (main P) (En_mk (x0, x1, ()) (by kernel_rfl) ⟨by kernel_rfl, by kernel_rfl, trivial⟩ h)

end F176
-- (*loop.example/g01329/impl.painter).give
namespace F177
noncomputable def ret (P : PT) : EP := retE T0 38 Try.f177 P
abbrev k0 : Sk := [(0,.v),(2,.i .i64),(22,.g [.i,.i]),(23,.i .i64)]
noncomputable def o2 := ob Try.f177 [.r,.r,.l,.l,.r,.r,.r]
def B2 (P : PT) (N1 : NTy k0 Pr) (x0 : Value) (x2 x22a x22b x23 : Int) (H : AHeap) : Prop :=
  N1 x0 x2 x22a x22b (IntKind.i64.wrap (x23 + 1)) H
theorem q2 (P : PT) (N1 : NTy k0 Pr) : QB Try.prog T0 38 o2 (En 38 k0 N1) k0 (B2 P N1) := fun _ _ _ _ _ _ _  => by kernel_rfl
abbrev k1 : Sk := [(0,.v),(2,.i .i64),(7,.i .i64),(22,.g [.i,.i]),(23,.i .i64)]
noncomputable def o3 := ob Try.f177 [.r,.r,.l,.l,.r,.r,.l,.l,.r]
def B3 (P : PT) (N1 : NTy k0 Pr) (x0 : Value) (x2 x7 x22a x22b x23 : Int) (H : AHeap) : Prop :=
  nilK x0 (fun v1 => asP v1 (fun b2 o3 => ld1 H b2 (o3 + 4) (fun v4 => idxK v4 x7 1 (fun b5 o6 => ldI .u64 H b5 o6 (fun v7 => ((0 : Int) ≤ x2) ∧ (idxK v4 x7 1 (fun b8 o9 => stK H b8 o9 [(Value.int .u64 (IntKind.u64.wrap (BitVec.ofInt 64 v7 ||| BitVec.ofInt 64 (IntKind.u64.wrap (1 * 2 ^ (min (Int.toNat x2) 64)))).toNat))] (fun H10 => B2 P N1 x0 x2 x22a x22b x23 H10))))))))
theorem q3 (P : PT) (N1 : NTy k0 Pr) : QD Try.prog T0 38 o3 [(0, false), (1, false), (2, false), (3, false), (4, false), (5, false), (6, false), (7, false), (8, false), (9, false), (10, false), (11, false)] (En 38 k0 (B2 P N1)) k1 (B3 P N1) := fun _ _ _ _ _ _ _ _  => by kernel_rfl
noncomputable def o4 := ob Try.f177 [.r,.r,.l,.l,.r,.r,.l,.l,.l]
def B4 (P : PT) (N1 : NTy k0 Pr) (x0 : Value) (x2 x22a x22b x23 : Int) (H : AHeap) : Prop :=
  bndK x23 2 (atK [(Value.int .i64 x22a), (Value.int .i64 x22b)] (Int.toNat x23 * 1) (fun v1 => asI .i64 v1 (fun v2 => B3 P N1 x0 x2 v2 x22a x22b x23 H)))
theorem q4 (P : PT) (N1 : NTy k0 Pr) : QB Try.prog T0 38 o4 (En 38 k1 (B3 P N1)) k0 (B4 P N1) := fun _ _ _ _ _ _ _  => by kernel_rfl
noncomputable def o5 := ob Try.f177 [.r,.r,.l,.l,.l]
def B5 (P : PT) (N1 : NTy k0 Pr) (x0 : Value) (x2 x22a x22b x23 : Int) (H : AHeap) : Prop :=
  pif (decide ((x23 : Int) < 2)) (B4 P N1 x0 x2 x22a x22b x23 H) (P (Value.tuple ⟨[]⟩) H)
theorem q5 (P : PT) (N1 : NTy k0 Pr) : QB Try.prog T0 38 o5 (cnd 24 (En 38 k0 (B4 P N1)) (ret P)) k0 (B5 P N1) := fun _ _ _ _ _ _ _  => by kernel_rfl
def L1 (P : PT) (x0 : Value) (x2 x22a x22b x23 : Int) (H : AHeap) : Prop :=
  ∃ (I : NTy k0 Pr) (μ : NTy k0 (AHeap → Nat)), I x0 x2 x22a x22b x23 H ∧ ∀ y0 y2 y22a y22b y23 G, I y0 y2 y22a y22b y23 G → B5 P (fun z0 z2 z22a z22b z23 G' => I z0 z2 z22a z22b z23 G' ∧ μ z0 z2 z22a z22b z23 G' < μ y0 y2 y22a y22b y23 G) y0 y2 y22a y22b y23 G
theorem l1 (P : PT) : LQ k0 (L1 P) (B5 P) := fun ⟨_,_,_,_,_,_⟩ _ ⟨I, μ, h0, hI⟩ => ⟨apT _ I, apT _ μ, h0, fun ⟨_,_,_,_,_,_⟩ _ h => hI _ _ _ _ _ _  h⟩
abbrev k2 : Sk := [(0,.v),(1,.i .i64),(2,.i .i64)]
noncomputable def o6 := ob Try.f177 [.r,.l]
def B6 (P : PT) (x0 : Value) (x1 x2 : Int) (H : AHeap) : Prop :=
  nilK x0 (fun v1 => asP v1 (fun b2 o3 => ld1 H b2 (o3 + 1) (fun v4 => idxK v4 x1 2 (fun b5 o6 => ldI .i64 H b5 o6 (fun v7 => ldI .i64 H b5 (o6 + 1) (fun v8 => L1 P x0 x2 v7 v8 0 H))))))
theorem q6 (P : PT) : QB Try.prog T0 38 o6 (En 38 k0 (L1 P)) k2 (B6 P) := fun _ _ _ _ _  => by kernel_rfl
noncomputable def o7 := ob Try.f177 [.l]
def B7 (P : PT) (x0 : Value) (x1 x2 : Int) (H : AHeap) : Prop :=
  nilK x0 (fun v1 => asP v1 (fun b2 o3 => ld1 H b2 (o3 + 3) (fun v4 => idxK v4 x1 1 (fun b5 o6 => stK H b5 o6 [(Value.int .i64 x2)] (fun H7 => B6 P x0 x1 x2 H7)))))
theorem q7 (P : PT) : QB Try.prog T0 38 o7 (En 38 k2 (B6 P)) k2 (B7 P) := fun _ _ _ _ _  => by kernel_rfl
noncomputable def code : Code := (.seq (.region 0 ⟨o7⟩ false) (.seq (.region 1 ⟨o6⟩ false) (.block 0 (.loop (.seq (.region 2 ⟨o5⟩ false) (.seq (.cond (.tmp 24) .skip (.exit 0)) (.seq (.block 1 (.seq (.region 3 ⟨o4⟩ false) (.region 4 ⟨o3⟩ true))) (.region 5 ⟨o2⟩ false))))))))
theorem body : Try.f177.body = some code := by kernel_rfl
theorem main (P : PT) : ∀ env H, (En 38 k2 (B7 P)) env H → AW Try.prog T0 code env H (mkQ (ret P) (fun _ _ _ => False) (ret P)) :=
  (r_seq (rB T0_ok (q7 P)) (r_seq (rB T0_ok (q6 P)) (r_block (rL (l1 P) (fun N1 => (r_seq (rB T0_ok (q5 P N1)) (r_seq (r_cond rfl r_skip (r_exit (fun _ _ h => h))) (r_seq (r_block (r_seq (rB T0_ok (q4 P N1)) (rD T0_ok mixed [(0, false), (1, false), (2, false), (3, false), (4, false), (5, false), (6, false), (7, false), (8, false), (9, false), (10, false), (11, false)] (by kernel_rfl) (q3 P N1)))) (rB T0_ok (q2 P N1))))))))))
theorem ac (P : PT) (x0 : Value) (x1 x2 : Int) (H : AHeap) (h : B7 P x0 x1 x2 H) : AC Try.prog T0 177 [x0, (Value.int .i64 x1), (Value.int .i64 x2)] H P :=
  r_fn T0_ok (c := code) (n := 38) Try.func177 body (by kernel_rfl) (main P) (En_mk (x0, x1, x2, ()) (by kernel_rfl) ⟨by kernel_rfl, by kernel_rfl, by kernel_rfl, trivial⟩ h)

end F177
-- (*loop.example/g01329/impl.painter).paint
namespace F178
noncomputable def ret (P : PT) : EP := retE T0 100 Try.f178 P
abbrev k0 : Sk := []
noncomputable def o1 := ob Try.f178 [.r,.r,.r,.r,.r,.r,.l]
def B1 (P : PT) (H : AHeap) : Prop :=
  P (Value.bool false) H
theorem q1 (P : PT) : QB Try.prog T0 100 o1 (ret P) k0 (B1 P) := fun _ _  => by kernel_rfl
abbrev k1 : Sk := [(0,.v),(1,.i .i64),(5,.i .i64),(6,.x),(65,.i .i64)]
noncomputable def o3 := ob Try.f178 [.r,.r,.r,.r,.r,.l,.r,.l,.l,.r,.r,.r]
def B3 (P : PT) (N2 : NTy k1 Pr) (x0 : Value) (x1 x5 : Int) (x6 : Nat) (x65 : Int) (H : AHeap) : Prop :=
  N2 x0 x1 x5 x6 (IntKind.i64.wrap (x65 + 1)) H
theorem q3 (P : PT) (N2 : NTy k1 Pr) : QB Try.prog T0 100 o3 (En 100 k1 N2) k1 (B3 P N2) := fun _ _ _ _ _ _ _  => by kernel_rfl
noncomputable def o4 := ob Try.f178 [.r,.r,.r,.r,.r,.l,.r,.l,.l,.r,.r,.l,.l,.r,.r,.r,.r,.r,.r,.l,.l]
def B4 (P : PT) (N2 : NTy k1 Pr) (H : AHeap) : Prop :=
  P (Value.bool true) H
theorem q4 (P : PT) (N2 : NTy k1 Pr) : QB Try.prog T0 100 o4 (ret P) k0 (B4 P N2) := fun _ _  => by kernel_rfl
abbrev k2 : Sk := [(0,.v),(1,.i .i64),(5,.i .i64),(6,.x),(8,.b),(65,.i .i64)]
noncomputable def o5 := ob Try.f178 [.r,.r,.r,.r,.r,.l,.r,.l,.l,.r,.r,.l,.l,.r,.r,.r,.r,.r,.l]
def B5 (P : PT) (N2 : NTy k1 Pr) (x0 : Value) (x1 x5 : Int) (x6 : Nat) (x8 : Bool) (x65 : Int) (H : AHeap) : Prop :=
  pif x8 (B4 P N2 H) (B3 P N2 x0 x1 x5 x6 x65 H)
theorem q5 (P : PT) (N2 : NTy k1 Pr) : QB Try.prog T0 100 o5 (cnd 98 (En 100 k0 (B4 P N2)) (En 100 k1 (B3 P N2))) k2 (B5 P N2) := fun _ _ _ _ _ _ _ _  => by kernel_rfl
noncomputable def o6 := ob Try.f178 [.r,.r,.r,.r,.r,.l,.r,.l,.l,.r,.r,.l,.l,.r,.r,.r,.r,.l]
def B6 (P : PT) (N2 : NTy k1 Pr) (x0 : Value) (x1 x5 : Int) (x6 : Nat) (x8 : Bool) (x65 : Int) (H : AHeap) : Prop :=
  AC Try.prog T0 188 [x0, (Value.int .i64 x5)] H (fun v1 H2 => asTup v1 (fun l3 => B5 P N2 x0 x1 x5 x6 x8 x65 H2))
theorem q6 (P : PT) (N2 : NTy k1 Pr) : QB Try.prog T0 100 o6 (En 100 k2 (B5 P N2)) k2 (B6 P N2) := fun _ _ _ _ _ _ _ _  => by kernel_rfl
noncomputable def o7 := ob Try.f178 [.r,.r,.r,.r,.r,.l,.r,.l,.l,.r,.r,.l,.l,.r,.r,.r,.l]
def B7 (P : PT) (N2 : NTy k1 Pr) (x0 : Value) (x1 x5 : Int) (x6 : Nat) (x65 : Int) (H : AHeap) : Prop :=
  AC Try.prog T0 178 [x0, (Value.int .i64 (IntKind.i64.wrap (x1 + 1)))] H (fun v1 H2 => asB v1 (fun v3 => B6 P N2 x0 x1 x5 x6 v3 x65 H2))
theorem q7 (P : PT) (N2 : NTy k1 Pr) : QB Try.prog T0 100 o7 (En 100 k2 (B6 P N2)) k1 (B7 P N2) := fun _ _ _ _ _ _ _  => by kernel_rfl
abbrev k3 : Sk := [(0,.v),(1,.i .i64),(5,.i .i64),(6,.x),(7,.i .i64),(65,.i .i64)]
noncomputable def o8 := ob Try.f178 [.r,.r,.r,.r,.r,.l,.r,.l,.l,.r,.r,.l,.l,.r,.r,.l]
def B8 (P : PT) (N2 : NTy k1 Pr) (x0 : Value) (x1 x5 : Int) (x6 : Nat) (x7 x65 : Int) (H : AHeap) : Prop :=
  AC Try.prog T0 177 [x0, (Value.int .i64 x5), (Value.int .i64 x7)] H (fun v1 H2 => asTup v1 (fun l3 => B7 P N2 x0 x1 x5 x6 x65 H2))
theorem q8 (P : PT) (N2 : NTy k1 Pr) : QB Try.prog T0 100 o8 (En 100 k1 (B7 P N2)) k3 (B8 P N2) := fun _ _ _ _ _ _ _ _  => by kernel_rfl
noncomputable def o9 := ob Try.f178 [.r,.r,.r,.r,.r,.l,.r,.l,.l,.r,.r,.l,.l,.r,.l,.l]
def B9 (P : PT) (N2 : NTy k1 Pr) (x0 : Value) (x1 x5 : Int) (x6 : Nat) (x7 x65 : Int) (H : AHeap) : Prop :=
  nilK x0 (fun v1 => asP v1 (fun b2 o3 => ld1 H b2 (o3 + 4) (fun v4 => ldI .i64 H x6 0 (fun v5 => idxK v4 v5 1 (fun b6 o7 => ldI .u64 H b6 o7 (fun v8 => nilK x0 (fun v9 => asP v9 (fun b10 o11 => ld1 H b10 (o11 + 4) (fun v12 => ldI .i64 H x6 1 (fun v13 => idxK v12 v13 1 (fun b14 o15 => ldI .u64 H b14 o15 (fun v16 => AC Try.prog T0 102 [(Value.int .u64 (IntKind.u64.wrap (BitVec.ofInt 64 v8 ||| BitVec.ofInt 64 v16).toNat)), (Value.int .i64 x7)] H (fun v17 H18 => asB v17 (fun v19 => pif v19 (B3 P N2 x0 x1 x5 x6 x65 H18) (B8 P N2 x0 x1 x5 x6 x7 x65 H18)))))))))))))))
theorem q9 (P : PT) (N2 : NTy k1 Pr) : QD Try.prog T0 100 o9 [(0, false), (1, false), (2, false), (3, false), (4, false), (5, false), (6, false), (7, false), (8, false), (9, false), (10, false), (11, false), (12, false), (13, false), (14, false), (15, false), (16, false), (17, false), (18, false)] (cnd 86 (En 100 k1 (B3 P N2)) (En 100 k3 (B8 P N2))) k3 (B9 P N2) := fun _ _ _ _ _ _ _ _  => by kernel_rfl
noncomputable def o10 := ob Try.f178 [.r,.r,.r,.r,.r,.l,.r,.l,.l,.r,.r,.l,.l,.l]
def B10 (P : PT) (N2 : NTy k1 Pr) (x0 : Value) (x1 x5 : Int) (x6 : Nat) (x65 : Int) (H : AHeap) : Prop :=
  B9 P N2 x0 x1 x5 x6 x65 x65 H
theorem q10 (P : PT) (N2 : NTy k1 Pr) : QB Try.prog T0 100 o10 (En 100 k3 (B9 P N2)) k1 (B10 P N2) := fun _ _ _ _ _ _ _  => by kernel_rfl
noncomputable def o11 := ob Try.f178 [.r,.r,.r,.r,.r,.l,.r,.l,.l,.l]
def B11 (P : PT) (N2 : NTy k1 Pr) (x0 : Value) (x1 x5 : Int) (x6 : Nat) (x65 : Int) (H : AHeap) : Prop :=
  pif (decide ((x65 : Int) < 3)) (B10 P N2 x0 x1 x5 x6 x65 H) (B1 P H)
theorem q11 (P : PT) (N2 : NTy k1 Pr) : QB Try.prog T0 100 o11 (cnd 66 (En 100 k1 (B10 P N2)) (En 100 k0 (B1 P))) k1 (B11 P N2) := fun _ _ _ _ _ _ _  => by kernel_rfl
def L2 (P : PT) (x0 : Value) (x1 x5 : Int) (x6 : Nat) (x65 : Int) (H : AHeap) : Prop :=
  ∃ (I : NTy k1 Pr) (μ : NTy k1 (AHeap → Nat)), I x0 x1 x5 x6 x65 H ∧ ∀ y0 y1 y5 y6 y65 G, I y0 y1 y5 y6 y65 G → B11 P (fun z0 z1 z5 z6 z65 G' => I z0 z1 z5 z6 z65 G' ∧ μ z0 z1 z5 z6 z65 G' < μ y0 y1 y5 y6 y65 G) y0 y1 y5 y6 y65 G
theorem l2 (P : PT) : LQ k1 (L2 P) (B11 P) := fun ⟨_,_,_,_,_,_⟩ _ ⟨I, μ, h0, hI⟩ => ⟨apT _ I, apT _ μ, h0, fun ⟨_,_,_,_,_,_⟩ _ h => hI _ _ _ _ _ _  h⟩
abbrev k4 : Sk := [(0,.v),(1,.i .i64),(5,.i .i64),(6,.x)]
noncomputable def o12 := ob Try.f178 [.r,.r,.r,.r,.r,.l,.l]
def B12 (P : PT) (x0 : Value) (x1 x5 : Int) (x6 : Nat) (H : AHeap) : Prop :=
  L2 P x0 x1 x5 x6 0 H
theorem q12 (P : PT) : QB Try.prog T0 100 o12 (En 100 k1 (L2 P)) k4 (B12 P) := fun _ _ _ _ _ _  => by kernel_rfl
abbrev k5 : Sk := [(0,.v),(1,.i .i64),(5,.i .i64)]
noncomputable def o13 := ob Try.f178 [.r,.r,.r,.r,.l]
def B13 (P : PT) (x0 : Value) (x1 x5 : Int) (H : AHeap) : Prop :=
  nilK x0 (fun v1 => asP v1 (fun b2 o3 => ld1 H b2 (o3 + 1) (fun v4 => idxK v4 x5 2 (fun b5 o6 => ldI .i64 H b5 o6 (fun v7 => ldI .i64 H b5 (o6 + 1) (fun v8 => newK H [(Value.int .i64 0), (Value.int .i64 0)] 100 (fun b9 H10 => stK H10 b9 0 [(Value.int .i64 v7), (Value.int .i64 v8)] (fun H11 => B12 P x0 x1 x5 b9 H11))))))))
theorem q13 (P : PT) : QB Try.prog T0 100 o13 (En 100 k4 (B12 P)) k5 (B13 P) := fun _ _ _ _ _  => by kernel_rfl
abbrev k6 : Sk := [(0,.v),(1,.i .i64)]
noncomputable def o14 := ob Try.f178 [.r,.r,.r,.l]
def B14 (P : PT) (x0 : Value) (x1 : Int) (H : AHeap) : Prop :=
  nilK x0 (fun v1 => asP v1 (fun b2 o3 => ld1 H b2 (o3 + 2) (fun v4 => idxK v4 x1 1 (fun b5 o6 => ldI .i64 H b5 o6 (fun v7 => B13 P x0 x1 v7 H)))))
theorem q14 (P : PT) : QB Try.prog T0 100 o14 (En 100 k5 (B13 P)) k6 (B14 P) := fun _ _ _ _  => by kernel_rfl
abbrev k7 : Sk := [(0,.v)]
noncomputable def o15 := ob Try.f178 [.r,.r,.l,.r,.l,.l]
def B15 (P : PT) (x0 : Value) (H : AHeap) : Prop :=
  nilK x0 (fun v1 => asP v1 (fun b2 o3 => ld1 H b2 (o3 + 5) (fun v4 => nilK x0 (fun v5 => asP v5 (fun b6 o7 => ld1 H b6 (o7 + 3) (fun v8 => callV Try.prog T0 v4 [v8] H (fun v9 H10 => asB v9 (fun v11 => P (Value.bool v11) H10))))))))
theorem q15 (P : PT) : QD Try.prog T0 100 o15 [(0, false), (1, false), (2, false), (3, false), (4, false), (5, false), (6, false), (7, false), (8, false), (9, false)] (ret P) k7 (B15 P) := fun _ _ _  => by kernel_rfl
noncomputable def o16 := ob Try.f178 [.r,.r,.l,.l]
def B16 (P : PT) (x0 : Value) (x1 : Int) (H : AHeap) : Prop :=
  nilK x0 (fun v1 => asP v1 (fun b2 o3 => ld1 H b2 (o3 + 2) (fun v4 => lenK v4 (fun n5 => pif ((x1 : Int) == (n5 : Int)) (B15 P x0 H) (B14 P x0 x1 H)))))
theorem q16 (P : PT) : QB Try.prog T0 100 o16 (cnd 40 (En 100 k7 (B15 P)) (En 100 k6 (B14 P))) k6 (B16 P) := fun _ _ _ _  => by kernel_rfl
noncomputable def o18 := ob Try.f178 [.r,.l,.l,.l,.r,.l]
def B18 (P : PT) (N17 : NTy k6 Pr) (x0 : Value) (x1 : Int) (H : AHeap) : Prop :=
  N17 x0 (IntKind.i64.wrap (x1 + 1)) H
theorem q18 (P : PT) (N17 : NTy k6 Pr) : QB Try.prog T0 100 o18 (En 100 k6 N17) k6 (B18 P N17) := fun _ _ _ _  => by kernel_rfl
noncomputable def o19 := ob Try.f178 [.r,.l,.l,.l,.l,.l]
def B19 (P : PT) (N17 : NTy k6 Pr) (x0 : Value) (x1 : Int) (H : AHeap) : Prop :=
  nilK x0 (fun v1 => asP v1 (fun b2 o3 => ld1 H b2 (o3 + 2) (fun v4 => lenK v4 (fun n5 => pif (decide ((x1 : Int) < (n5 : Int))) (nilK x0 (fun v6 => asP v6 (fun b7 o8 => ld1 H b7 (o8 + 3) (fun v9 => nilK x0 (fun v10 => asP v10 (fun b11 o12 => ld1 H b11 (o12 + 2) (fun v13 => idxK v13 x1 1 (fun b14 o15 => ldI .i64 H b14 o15 (fun v16 => idxK v9 v16 1 (fun b17 o18 => ldI .i64 H b17 o18 (fun v19 => pif ((v19 : Int) != (-1)) (B18 P N17 x0 x1 H) (B16 P x0 x1 H)))))))))))) (B16 P x0 x1 H)))))
theorem q19 (P : PT) (N17 : NTy k6 Pr) : QD Try.prog T0 100 o19 [(0, false), (1, false), (2, false), (3, false), (4, false), (5, false), (6, false), (7, false), (8, false), (9, false), (10, false), (11, false), (12, false), (13, false), (14, false), (15, false), (16, false), (17, false), (18, false), (19, false), (20, false), (21, false), (22, false)] (cnd 31 (En 100 k6 (B18 P N17)) (En 100 k6 (B16 P))) k6 (B19 P N17) := fun _ _ _ _  => by kernel_rfl
def L17 (P : PT) (x0 : Value) (x1 : Int) (H : AHeap) : Prop :=
  ∃ (I : NTy k6 Pr) (μ : NTy k6 (AHeap → Nat)), I x0 x1 H ∧ ∀ y0 y1 G, I y0 y1 G → B19 P (fun z0 z1 G' => I z0 z1 G' ∧ μ z0 z1 G' < μ y0 y1 G) y0 y1 G
theorem l17 (P : PT) : LQ k6 (L17 P) (B19 P) := fun ⟨_,_,_⟩ _ ⟨I, μ, h0, hI⟩ => ⟨apT _ I, apT _ μ, h0, fun ⟨_,_,_⟩ _ h => hI _ _ _  h⟩
noncomputable def o20 := ob Try.f178 [.l]
def B20 (P : PT) (x0 : Value) (x1 : Int) (H : AHeap) : Prop :=
  L17 P x0 x1 H
theorem q20 (P : PT) : QB Try.prog T0 100 o20 (En 100 k6 (L17 P)) k6 (B20 P) := fun _ _ _ _  => by kernel_rfl
noncomputable def code : Code := (.seq (.region 0 ⟨o20⟩ false) (.seq (.block 0 (.loop (.seq (.seq (.region 1 ⟨o19⟩ true) (.cond (.tmp 31) .skip (.exit 0))) (.block 1 (.region 2 ⟨o18⟩ false))))) (.seq (.seq (.region 3 ⟨o16⟩ false) (.cond (.tmp 40) (.seq (.region 4 ⟨o15⟩ true) .ret) .skip)) (.seq (.region 5 ⟨o14⟩ false) (.seq (.region 6 ⟨o13⟩ false) (.seq (.seq (.region 7 ⟨o12⟩ false) (.block 2 (.loop (.seq (.region 8 ⟨o11⟩ false) (.seq (.cond (.tmp 66) .skip (.exit 2)) (.seq (.block 3 (.seq (.region 9 ⟨o10⟩ false) (.seq (.seq (.region 10 ⟨o9⟩ true) (.cond (.tmp 86) (.exit 3) .skip)) (.seq (.region 11 ⟨o8⟩ false) (.seq (.region 12 ⟨o7⟩ false) (.seq (.region 13 ⟨o6⟩ false) (.seq (.region 14 ⟨o5⟩ false) (.cond (.tmp 98) (.seq (.region 15 ⟨o4⟩ false) .ret) .skip)))))))) (.region 16 ⟨o3⟩ false))))))) (.seq (.region 17 ⟨o1⟩ false) .ret)))))))
theorem body : Try.f178.body = some code := by kernel_rfl
theorem main (P : PT) : ∀ env H, (En 100 k6 (B20 P)) env H → AW Try.prog T0 code env H (mkQ (ret P) (fun _ _ _ => False) (ret P)) :=
  (r_seq (rB T0_ok (q20 P)) (r_seq (r_block (rL (l17 P) (fun N17 => (r_seq (r_seq (rD T0_ok mixed [(0, false), (1, false), (2, false), (3, false), (4, false), (5, false), (6, false), (7, false), (8, false), (9, false), (10, false), (11, false), (12, false), (13, false), (14, false), (15, false), (16, false), (17, false), (18, false), (19, false), (20, false), (21, false), (22, false)] (by kernel_rfl) (q19 P N17)) (r_cond rfl r_skip (r_exit (fun _ _ h => h)))) (r_block (rB T0_ok (q18 P N17))))))) (r_seq (r_seq (rB T0_ok (q16 P)) (r_cond rfl (r_seq (rD T0_ok mixed [(0, false), (1, false), (2, false), (3, false), (4, false), (5, false), (6, false), (7, false), (8, false), (9, false)] (by kernel_rfl) (q15 P)) r_ret) r_skip)) (r_seq (rB T0_ok (q14 P)) (r_seq (rB T0_ok (q13 P)) (r_seq (r_seq (rB T0_ok (q12 P)) (r_block (rL (l2 P) (fun N2 => (r_seq (rB T0_ok (q11 P N2)) (r_seq (r_cond rfl r_skip (r_exit (fun _ _ h => h))) (r_seq (r_block (r_seq (rB T0_ok (q10 P N2)) (r_seq (r_seq (rD T0_ok mixed [(0, false), (1, false), (2, false), (3, false), (4, false), (5, false), (6, false), (7, false), (8, false), (9, false), (10, false), (11, false), (12, false), (13, false), (14, false), (15, false), (16, false), (17, false), (18, false)] (by kernel_rfl) (q9 P N2)) (r_cond rfl (r_exit (fun _ _ h => h)) r_skip)) (r_seq (rB T0_ok (q8 P N2)) (r_seq (rB T0_ok (q7 P N2)) (r_seq (rB T0_ok (q6 P N2)) (r_seq (rB T0_ok (q5 P N2)) (r_cond rfl (r_seq (rB T0_ok (q4 P N2)) r_ret) r_skip)))))))) (rB T0_ok (q3 P N2))))))))) (r_seq (rB T0_ok (q1 P)) r_ret)))))))
theorem ac (P : PT) (x0 : Value) (x1 : Int) (H : AHeap) (h : B20 P x0 x1 H) : AC Try.prog T0 178 [x0, (Value.int .i64 x1)] H P :=
  r_fn T0_ok (c := code) (n := 100) Try.func178 body (by kernel_rfl) (main P) (En_mk (x0, x1, ()) (by kernel_rfl) ⟨by kernel_rfl, by kernel_rfl, trivial⟩ h)

end F178
-- slices.IndexFunc[[]int,int]
namespace F180
noncomputable def ret (P : PT) : EP := retE T0 19 Try.f180 P
abbrev k0 : Sk := []
noncomputable def o1 := ob Try.f180 [.r,.r,.l]
def B1 (P : PT) (H : AHeap) : Prop :=
  P (Value.int .i64 (-1)) H
theorem q1 (P : PT) : QB Try.prog T0 19 o1 (ret P) k0 (B1 P) := fun _ _  => by kernel_rfl
abbrev k1 : Sk := [(0,.v),(1,.v),(7,.i .i64),(8,.i .i64)]
noncomputable def o3 := ob Try.f180 [.r,.l,.r,.l,.l,.r,.r,.r]
def B3 (P : PT) (N2 : NTy k1 Pr) (x0 x1 : Value) (x7 x8 : Int) (H : AHeap) : Prop :=
  N2 x0 x1 x7 (IntKind.i64.wrap (x8 + 1)) H
theorem q3 (P : PT) (N2 : NTy k1 Pr) : QB Try.prog T0 19 o3 (En 19 k1 N2) k1 (B3 P N2) := fun _ _ _ _ _ _  => by kernel_rfl
abbrev k2 : Sk := [(5,.i .i64)]
noncomputable def o4 := ob Try.f180 [.r,.l,.r,.l,.l,.r,.r,.l,.l,.r,.r,.l,.l]
def B4 (P : PT) (N2 : NTy k1 Pr) (x5 : Int) (H : AHeap) : Prop :=
  P (Value.int .i64 x5) H
theorem q4 (P : PT) (N2 : NTy k1 Pr) : QB Try.prog T0 19 o4 (ret P) k2 (B4 P N2) := fun _ _ _  => by kernel_rfl
abbrev k3 : Sk := [(0,.v),(1,.v),(5,.i .i64),(7,.i .i64),(8,.i .i64)]
noncomputable def o5 := ob Try.f180 [.r,.l,.r,.l,.l,.r,.r,.l,.l,.r,.l]
def B5 (P : PT) (N2 : NTy k1 Pr) (x0 x1 : Value) (x5 x7 x8 : Int) (H : AHeap) : Prop :=
  idxK x0 x5 1 (fun b1 o2 => ldI .i64 H b1 o2 (fun v3 => callV Try.prog T0 x1 [(Value.int .i64 v3)] H (fun v4 H5 => asB v4 (fun v6 => pif v6 (B4 P N2 x5 H5) (B3 P N2 x0 x1 x7 x8 H5)))))
theorem q5 (P : PT) (N2 : NTy k1 Pr) : QB Try.prog T0 19 o5 (cnd 16 (En 19 k2 (B4 P N2)) (En 19 k1 (B3 P N2))) k3 (B5 P N2) := fun _ _ _ _ _ _ _  => by kernel_rfl
noncomputable def o6 := ob Try.f180 [.r,.l,.r,.l,.l,.r,.r,.l,.l,.l]
def B6 (P : PT) (N2 : NTy k1 Pr) (x0 x1 : Value) (x7 x8 : Int) (H : AHeap) : Prop :=
  B5 P N2 x0 x1 x8 x7 x8 H
theorem q6 (P : PT) (N2 : NTy k1 Pr) : QB Try.prog T0 19 o6 (En 19 k3 (B5 P N2)) k1 (B6 P N2) := fun _ _ _ _ _ _  => by kernel_rfl
noncomputable def o7 := ob Try.f180 [.r,.l,.r,.l,.l,.l]
def B7 (P : PT) (N2 : NTy k1 Pr) (x0 x1 : Value) (x7 x8 : Int) (H : AHeap) : Prop :=
  pif (decide ((x8 : Int) < x7)) (B6 P N2 x0 x1 x7 x8 H) (B1 P H)
theorem q7 (P : PT) (N2 : NTy k1 Pr) : QB Try.prog T0 19 o7 (cnd 9 (En 19 k1 (B6 P N2)) (En 19 k0 (B1 P))) k1 (B7 P N2) := fun _ _ _ _ _ _  => by kernel_rfl
def L2 (P : PT) (x0 x1 : Value) (x7 x8 : Int) (H : AHeap) : Prop :=
  ∃ (I : NTy k1 Pr) (μ : NTy k1 (AHeap → Nat)), I x0 x1 x7 x8 H ∧ ∀ y0 y1 y7 y8 G, I y0 y1 y7 y8 G → B7 P (fun z0 z1 z7 z8 G' => I z0 z1 z7 z8 G' ∧ μ z0 z1 z7 z8 G' < μ y0 y1 y7 y8 G) y0 y1 y7 y8 G
theorem l2 (P : PT) : LQ k1 (L2 P) (B7 P) := fun ⟨_,_,_,_,_⟩ _ ⟨I, μ, h0, hI⟩ => ⟨apT _ I, apT _ μ, h0, fun ⟨_,_,_,_,_⟩ _ h => hI _ _ _ _ _  h⟩
abbrev k4 : Sk := [(0,.v),(1,.v)]
noncomputable def o8 := ob Try.f180 [.r,.l,.l]
def B8 (P : PT) (x0 x1 : Value) (H : AHeap) : Prop :=
  lenK x0 (fun n1 => L2 P x0 x1 (n1 : Int) 0 H)
theorem q8 (P : PT) : QB Try.prog T0 19 o8 (En 19 k1 (L2 P)) k4 (B8 P) := fun _ _ _ _  => by kernel_rfl
noncomputable def o9 := ob Try.f180 [.l]
def B9 (P : PT) (x0 x1 : Value) (H : AHeap) : Prop :=
  B8 P x0 x1 H
theorem q9 (P : PT) : QB Try.prog T0 19 o9 (En 19 k4 (B8 P)) k4 (B9 P) := fun _ _ _ _  => by kernel_rfl
noncomputable def code : Code := (.seq (.region 0 ⟨o9⟩ false) (.seq (.seq (.region 1 ⟨o8⟩ false) (.block 0 (.loop (.seq (.region 2 ⟨o7⟩ false) (.seq (.cond (.tmp 9) .skip (.exit 0)) (.seq (.block 1 (.seq (.region 3 ⟨o6⟩ false) (.seq (.region 4 ⟨o5⟩ false) (.cond (.tmp 16) (.seq (.region 5 ⟨o4⟩ false) .ret) .skip)))) (.region 6 ⟨o3⟩ false))))))) (.seq (.region 7 ⟨o1⟩ false) .ret)))
theorem body : Try.f180.body = some code := by kernel_rfl
theorem main (P : PT) : ∀ env H, (En 19 k4 (B9 P)) env H → AW Try.prog T0 code env H (mkQ (ret P) (fun _ _ _ => False) (ret P)) :=
  (r_seq (rB T0_ok (q9 P)) (r_seq (r_seq (rB T0_ok (q8 P)) (r_block (rL (l2 P) (fun N2 => (r_seq (rB T0_ok (q7 P N2)) (r_seq (r_cond rfl r_skip (r_exit (fun _ _ h => h))) (r_seq (r_block (r_seq (rB T0_ok (q6 P N2)) (r_seq (rB T0_ok (q5 P N2)) (r_cond rfl (r_seq (rB T0_ok (q4 P N2)) r_ret) r_skip)))) (rB T0_ok (q3 P N2))))))))) (r_seq (rB T0_ok (q1 P)) r_ret)))
theorem ac (P : PT) (x0 x1 : Value) (H : AHeap) (h : B9 P x0 x1 H) : AC Try.prog T0 180 [x0, x1] H P :=
  r_fn T0_ok (c := code) (n := 19) Try.func180 body (by kernel_rfl) (main P) (En_mk (x0, x1, ()) (by kernel_rfl) ⟨by kernel_rfl, by kernel_rfl, trivial⟩ h)

end F180
-- slices.IndexFunc[[]loop.example/g01329/impl.Edge,loop.example/g01329/impl.Edge]
namespace F183
noncomputable def ret (P : PT) : EP := retE T0 19 Try.f183 P
abbrev k0 : Sk := []
noncomputable def o1 := ob Try.f183 [.r,.r,.l]
def B1 (P : PT) (H : AHeap) : Prop :=
  P (Value.int .i64 (-1)) H
theorem q1 (P : PT) : QB Try.prog T0 19 o1 (ret P) k0 (B1 P) := fun _ _  => by kernel_rfl
abbrev k1 : Sk := [(0,.v),(1,.v),(7,.i .i64),(8,.i .i64)]
noncomputable def o3 := ob Try.f183 [.r,.l,.r,.l,.l,.r,.r,.r]
def B3 (P : PT) (N2 : NTy k1 Pr) (x0 x1 : Value) (x7 x8 : Int) (H : AHeap) : Prop :=
  N2 x0 x1 x7 (IntKind.i64.wrap (x8 + 1)) H
theorem q3 (P : PT) (N2 : NTy k1 Pr) : QB Try.prog T0 19 o3 (En 19 k1 N2) k1 (B3 P N2) := fun _ _ _ _ _ _  => by kernel_rfl
abbrev k2 : Sk := [(5,.i .i64)]
noncomputable def o4 := ob Try.f183 [.r,.l,.r,.l,.l,.r,.r,.l,.l,.r,.r,.l,.l]
def B4 (P : PT) (N2 : NTy k1 Pr) (x5 : Int) (H : AHeap) : Prop :=
  P (Value.int .i64 x5) H
theorem q4 (P : PT) (N2 : NTy k1 Pr) : QB Try.prog T0 19 o4 (ret P) k2 (B4 P N2) := fun _ _ _  => by kernel_rfl
abbrev k3 : Sk := [(0,.v),(1,.v),(5,.i .i64),(7,.i .i64),(8,.i .i64)]
noncomputable def o5 := ob Try.f183 [.r,.l,.r,.l,.l,.r,.r,.l,.l,.r,.l]
def B5 (P : PT) (N2 : NTy k1 Pr) (x0 x1 : Value) (x5 x7 x8 : Int) (H : AHeap) : Prop :=
  idxK x0 x5 2 (fun b1 o2 => ldI .i64 H b1 o2 (fun v3 => ldI .i64 H b1 (o2 + 1) (fun v4 => callV Try.prog T0 x1 [(Value.agg ⟨[(Value.int .i64 v3), (Value.int .i64 v4)]⟩)] H (fun v5 H6 => asB v5 (fun v7 => pif v7 (B4 P N2 x5 H6) (B3 P N2 x0 x1 x7 x8 H6))))))
theorem q5 (P : PT) (N2 : NTy k1 Pr) : QB Try.prog T0 19 o5 (cnd 16 (En 19 k2 (B4 P N2)) (En 19 k1 (B3 P N2))) k3 (B5 P N2) := fun _ _ _ _ _ _ _  => by kernel_rfl
noncomputable def o6 := ob Try.f183 [.r,.l,.r,.l,.l,.r,.r,.l,.l,.l]
def B6 (P : PT) (N2 : NTy k1 Pr) (x0 x1 : Value) (x7 x8 : Int) (H : AHeap) : Prop :=
  B5 P N2 x0 x1 x8 x7 x8 H
theorem q6 (P : PT) (N2 : NTy k1 Pr) : QB Try.prog T0 19 o6 (En 19 k3 (B5 P N2)) k1 (B6 P N2) := fun _ _ _ _ _ _  => by kernel_rfl
noncomputable def o7 := ob Try.f183 [.r,.l,.r,.l,.l,.l]
def B7 (P : PT) (N2 : NTy k1 Pr) (x0 x1 : Value) (x7 x8 : Int) (H : AHeap) : Prop :=
  pif (decide ((x8 : Int) < x7)) (B6 P N2 x0 x1 x7 x8 H) (B1 P H)
theorem q7 (P : PT) (N2 : NTy k1 Pr) : QB Try.prog T0 19 o7 (cnd 9 (En 19 k1 (B6 P N2)) (En 19 k0 (B1 P))) k1 (B7 P N2) := fun _ _ _ _ _ _  => by kernel_rfl
def L2 (P : PT) (x0 x1 : Value) (x7 x8 : Int) (H : AHeap) : Prop :=
  ∃ (I : NTy k1 Pr) (μ : NTy k1 (AHeap → Nat)), I x0 x1 x7 x8 H ∧ ∀ y0 y1 y7 y8 G, I y0 y1 y7 y8 G → B7 P (fun z0 z1 z7 z8 G' => I z0 z1 z7 z8 G' ∧ μ z0 z1 z7 z8 G' < μ y0 y1 y7 y8 G) y0 y1 y7 y8 G
theorem l2 (P : PT) : LQ k1 (L2 P) (B7 P) := fun ⟨_,_,_,_,_⟩ _ ⟨I, μ, h0, hI⟩ => ⟨apT _ I, apT _ μ, h0, fun ⟨_,_,_,_,_⟩ _ h => hI _ _ _ _ _  h⟩
abbrev k4 : Sk := [(0,.v),(1,.v)]
noncomputable def o8 := ob Try.f183 [.r,.l,.l]
def B8 (P : PT) (x0 x1 : Value) (H : AHeap) : Prop :=
  lenK x0 (fun n1 => L2 P x0 x1 (n1 : Int) 0 H)
theorem q8 (P : PT) : QB Try.prog T0 19 o8 (En 19 k1 (L2 P)) k4 (B8 P) := fun _ _ _ _  => by kernel_rfl
noncomputable def o9 := ob Try.f183 [.l]
def B9 (P : PT) (x0 x1 : Value) (H : AHeap) : Prop :=
  B8 P x0 x1 H
theorem q9 (P : PT) : QB Try.prog T0 19 o9 (En 19 k4 (B8 P)) k4 (B9 P) := fun _ _ _ _  => by kernel_rfl
noncomputable def code : Code := (.seq (.region 0 ⟨o9⟩ false) (.seq (.seq (.region 1 ⟨o8⟩ false) (.block 0 (.loop (.seq (.region 2 ⟨o7⟩ false) (.seq (.cond (.tmp 9) .skip (.exit 0)) (.seq (.block 1 (.seq (.region 3 ⟨o6⟩ false) (.seq (.region 4 ⟨o5⟩ false) (.cond (.tmp 16) (.seq (.region 5 ⟨o4⟩ false) .ret) .skip)))) (.region 6 ⟨o3⟩ false))))))) (.seq (.region 7 ⟨o1⟩ false) .ret)))
theorem body : Try.f183.body = some code := by kernel_rfl
theorem main (P : PT) : ∀ env H, (En 19 k4 (B9 P)) env H → AW Try.prog T0 code env H (mkQ (ret P) (fun _ _ _ => False) (ret P)) :=
  (r_seq (rB T0_ok (q9 P)) (r_seq (r_seq (rB T0_ok (q8 P)) (r_block (rL (l2 P) (fun N2 => (r_seq (rB T0_ok (q7 P N2)) (r_seq (r_cond rfl r_skip (r_exit (fun _ _ h => h))) (r_seq (r_block (r_seq (rB T0_ok (q6 P N2)) (r_seq (rB T0_ok (q5 P N2)) (r_cond rfl (r_seq (rB T0_ok (q4 P N2)) r_ret) r_skip)))) (rB T0_ok (q3 P N2))))))))) (r_seq (rB T0_ok (q1 P)) r_ret)))
theorem ac (P : PT) (x0 x1 : Value) (H : AHeap) (h : B9 P x0 x1 H) : AC Try.prog T0 183 [x0, x1] H P :=
  r_fn T0_ok (c := code) (n := 19) Try.func183 body (by kernel_rfl) (main P) (En_mk (x0, x1, ()) (by kernel_rfl) ⟨by kernel_rfl, by kernel_rfl, trivial⟩ h)

end F183
-- cmp.Compare[int64]
namespace F186
noncomputable def ret (P : PT) : EP := retE T0 20 Try.f186 P
abbrev k0 : Sk := []
noncomputable def o1 := ob Try.f186 [.r,.r,.r,.r,.r,.r,.r,.l]
def B1 (P : PT) (H : AHeap) : Prop :=
  P (Value.int .i64 0) H
theorem q1 (P : PT) : QB Try.prog T0 20 o1 (ret P) k0 (B1 P) := fun _ _  => by kernel_rfl
noncomputable def o2 := ob Try.f186 [.r,.r,.r,.r,.r,.r,.l,.r,.l,.l]
def B2 (P : PT) (H : AHeap) : Prop :=
  P (Value.int .i64 1) H
theorem q2 (P : PT) : QB Try.prog T0 20 o2 (ret P) k0 (B2 P) := fun _ _  => by kernel_rfl
abbrev k1 : Sk := [(0,.i .i64),(1,.i .i64)]
noncomputable def o3 := ob Try.f186 [.r,.r,.r,.r,.r,.r,.l,.l]
def B3 (P : PT) (x0 x1 : Int) (H : AHeap) : Prop :=
  pif (decide ((x0 : Int) > x1)) (B2 P H) (B1 P H)
theorem q3 (P : PT) : QB Try.prog T0 20 o3 (cnd 19 (En 20 k0 (B2 P)) (En 20 k0 (B1 P))) k1 (B3 P) := fun _ _ _ _  => by kernel_rfl
noncomputable def o4 := ob Try.f186 [.r,.r,.r,.r,.r,.l,.r,.l,.l]
def B4 (P : PT) (H : AHeap) : Prop :=
  P (Value.int .i64 (-1)) H
theorem q4 (P : PT) : QB Try.prog T0 20 o4 (ret P) k0 (B4 P) := fun _ _  => by kernel_rfl
noncomputable def o5 := ob Try.f186 [.r,.r,.r,.r,.r,.l,.l]
def B5 (P : PT) (x0 x1 : Int) (H : AHeap) : Prop :=
  pif (decide ((x0 : Int) < x1)) (B4 P H) (B3 P x0 x1 H)
theorem q5 (P : PT) : QB Try.prog T0 20 o5 (cnd 16 (En 20 k0 (B4 P)) (En 20 k1 (B3 P))) k1 (B5 P) := fun _ _ _ _  => by kernel_rfl
noncomputable def o6 := ob Try.f186 [.r,.r,.r,.r,.l,.r,.l,.l]
def B6 (P : PT) (H : AHeap) : Prop :=
  P (Value.int .i64 1) H
theorem q6 (P : PT) : QB Try.prog T0 20 o6 (ret P) k0 (B6 P) := fun _ _  => by kernel_rfl
abbrev k2 : Sk := [(0,.i .i64),(1,.i .i64),(6,.b)]
noncomputable def o7 := ob Try.f186 [.r,.r,.r,.r,.l,.l]
def B7 (P : PT) (x0 x1 : Int) (x6 : Bool) (H : AHeap) : Prop :=
  pif x6 (B6 P H) (B5 P x0 x1 H)
theorem q7 (P : PT) : QB Try.prog T0 20 o7 (cnd 13 (En 20 k0 (B6 P)) (En 20 k1 (B5 P))) k2 (B7 P) := fun _ _ _ _ _  => by kernel_rfl
noncomputable def o8 := ob Try.f186 [.r,.r,.r,.l,.r,.l,.r,.l]
def B8 (P : PT) (H : AHeap) : Prop :=
  P (Value.int .i64 (-1)) H
theorem q8 (P : PT) : QB Try.prog T0 20 o8 (ret P) k0 (B8 P) := fun _ _  => by kernel_rfl
noncomputable def o9 := ob Try.f186 [.r,.r,.r,.l,.r,.l,.l,.r,.l,.l]
def B9 (P : PT) (H : AHeap) : Prop :=
  P (Value.int .i64 0) H
theorem q9 (P : PT) : QB Try.prog T0 20 o9 (ret P) k0 (B9 P) := fun _ _  => by kernel_rfl
abbrev k3 : Sk := [(6,.b)]
noncomputable def o10 := ob Try.f186 [.r,.r,.r,.l,.r,.l,.l,.l]
def B10 (P : PT) (x6 : Bool) (H : AHeap) : Prop :=
  pif x6 (B9 P H) (B8 P H)
theorem q10 (P : PT) : QB Try.prog T0 20 o10 (cnd 12 (En 20 k0 (B9 P)) (En 20 k0 (B8 P))) k3 (B10 P) := fun _ _ _  => by kernel_rfl
abbrev k4 : Sk := [(0,.i .i64),(1,.i .i64),(5,.b),(6,.b)]
noncomputable def o11 := ob Try.f186 [.r,.r,.r,.l,.l]
def B11 (P : PT) (x0 x1 : Int) (x5 x6 : Bool) (H : AHeap) : Prop :=
  pif x5 (B10 P x6 H) (B7 P x0 x1 x6 H)
theorem q11 (P : PT) : QB Try.prog T0 20 o11 (cnd 11 (En 20 k3 (B10 P)) (En 20 k2 (B7 P))) k4 (B11 P) := fun _ _ _ _ _ _  => by kernel_rfl
abbrev k5 : Sk := [(0,.i .i64),(1,.i .i64),(5,.b)]
noncomputable def o12 := ob Try.f186 [.r,.r,.l]
def B12 (P : PT) (x0 x1 : Int) (x5 : Bool) (H : AHeap) : Prop :=
  AC Try.prog T0 199 [(Value.int .i64 x1)] H (fun v1 H2 => asB v1 (fun v3 => B11 P x0 x1 x5 v3 H2))
theorem q12 (P : PT) : QB Try.prog T0 20 o12 (En 20 k4 (B11 P)) k5 (B12 P) := fun _ _ _ _ _  => by kernel_rfl
noncomputable def o13 := ob Try.f186 [.r,.l]
def B13 (P : PT) (x0 x1 : Int) (H : AHeap) : Prop :=
  AC Try.prog T0 199 [(Value.int .i64 x0)] H (fun v1 H2 => asB v1 (fun v3 => B12 P x0 x1 v3 H2))
theorem q13 (P : PT) : QB Try.prog T0 20 o13 (En 20 k5 (B12 P)) k1 (B13 P) := fun _ _ _ _  => by kernel_rfl
noncomputable def o14 := ob Try.f186 [.l]
def B14 (P : PT) (x0 x1 : Int) (H : AHeap) : Prop :=
  B13 P x0 x1 H
theorem q14 (P : PT) : QB Try.prog T0 20 o14 (En 20 k1 (B13 P)) k1 (B14 P) := fun _ _ _ _  => by kernel_rfl
noncomputable def code : Code := (.seq (.region 0 ⟨o14⟩ false) (.seq (.region 1 ⟨o13⟩ false) (.seq (.region 2 ⟨o12⟩ false) (.seq (.seq (.region 3 ⟨o11⟩ false) (.cond (.tmp 11) (.seq (.seq (.region 4 ⟨o10⟩ false) (.cond (.tmp 12) (.seq (.region 5 ⟨o9⟩ false) .ret) .skip)) (.seq (.region 6 ⟨o8⟩ false) .ret)) .skip)) (.seq (.seq (.region 7 ⟨o7⟩ false) (.cond (.tmp 13) (.seq (.region 8 ⟨o6⟩ false) .ret) .skip)) (.seq (.seq (.region 9 ⟨o5⟩ false) (.cond (.tmp 16) (.seq (.region 10 ⟨o4⟩ false) .ret) .skip)) (.seq (.seq (.region 11 ⟨o3⟩ false) (.cond (.tmp 19) (.seq (.region 12 ⟨o2⟩ false) .ret) .skip)) (.seq (.region 13 ⟨o1⟩ false) .ret))))))))
theorem body : Try.f186.body = some code := by kernel_rfl
theorem main (P : PT) : ∀ env H, (En 20 k1 (B14 P)) env H → AW Try.prog T0 code env H (mkQ (ret P) (fun _ _ _ => False) (ret P)) :=
  (r_seq (rB T0_ok (q14 P)) (r_seq (rB T0_ok (q13 P)) (r_seq (rB T0_ok (q12 P)) (r_seq (r_seq (rB T0_ok (q11 P)) (r_cond rfl (r_seq (r_seq (rB T0_ok (q10 P)) (r_cond rfl (r_seq (rB T0_ok (q9 P)) r_ret) r_skip)) (r_seq (rB T0_ok (q8 P)) r_ret)) r_skip)) (r_seq (r_seq (rB T0_ok (q7 P)) (r_cond rfl (r_seq (rB T0_ok (q6 P)) r_ret) r_skip)) (r_seq (r_seq (rB T0_ok (q5 P)) (r_cond rfl (r_seq (rB T0_ok (q4 P)) r_ret) r_skip)) (r_seq (r_seq (rB T0_ok (q3 P)) (r_cond rfl (r_seq (rB T0_ok (q2 P)) r_ret) r_skip)) (r_seq (rB T0_ok (q1 P)) r_ret))))))))
theorem ac (P : PT) (x0 x1 : Int) (H : AHeap) (h : B14 P x0 x1 H) : AC Try.prog T0 186 [(Value.int .i64 x0), (Value.int .i64 x1)] H P :=
  r_fn T0_ok (c := code) (n := 20) Try.func186 body (by kernel_rfl) (main P) (En_mk (x0, x1, ()) (by kernel_rfl) ⟨by kernel_rfl, by kernel_rfl, trivial⟩ h)

end F186
-- math/bits.Mul
namespace F187
noncomputable def ret (P : PT) : EP := retE T0 30 Try.f187 P
abbrev k0 : Sk := [(8,.i .u64),(9,.i .u64)]
noncomputable def o1 := ob Try.f187 [.r,.r,.r,.l]
def B1 (P : PT) (x8 x9 : Int) (H : AHeap) : Prop :=
  P (Value.tuple ⟨[(Value.int .u64 x8), (Value.int .u64 x9)]⟩) H
theorem q1 (P : PT) : QB Try.prog T0 30 o1 (ret P) k0 (B1 P) := fun _ _ _ _  => by kernel_rfl
abbrev k1 : Sk := [(0,.i .u64),(1,.i .u64)]
noncomputable def o2 := ob Try.f187 [.r,.r,.l]
def B2 (P : PT) (x0 x1 : Int) (H : AHeap) : Prop :=
  AC Try.prog T0 201 [(Value.int .u64 x0), (Value.int .u64 x1)] H (fun v1 H2 => tup2 v1 (fun v3 v4 => asI .u64 v3 (fun v5 => asI .u64 v4 (fun v6 => B1 P v5 v6 H2))))
theorem q2 (P : PT) : QB Try.prog T0 30 o2 (En 30 k0 (B1 P)) k1 (B2 P) := fun _ _ _ _  => by kernel_rfl
noncomputable def o3 := ob Try.f187 [.l]
def B3 (P : PT) (x0 x1 : Int) (H : AHeap) : Prop :=
  B2 P x0 x1 H
theorem q3 (P : PT) : QB Try.prog T0 30 o3 (En 30 k1 (B2 P)) k1 (B3 P) := fun _ _ _ _  => by kernel_rfl
noncomputable def code : Code := (.seq (.region 0 ⟨o3⟩ false) (.seq (.cond (.const (.bool false)) (codeAt (bodyOf Try.f187) [.r,.l,.l]) .skip) (.seq (.region 3 ⟨o2⟩ false) (.seq (.region 4 ⟨o1⟩ false) .ret))))
theorem body : Try.f187.body = some code := by kernel_rfl
theorem main (P : PT) : ∀ env H, (En 30 k1 (B3 P)) env H → AW Try.prog T0 code env H (mkQ (ret P) (fun _ _ _ => False) (ret P)) :=
  (r_seq (rB T0_ok (q3 P)) (r_seq (r_condF r_skip) (r_seq (rB T0_ok (q2 P)) (r_seq (rB T0_ok (q1 P)) r_ret))))
theorem ac (P : PT) (x0 x1 : Int) (H : AHeap) (h : B3 P x0 x1 H) : AC Try.prog T0 187 [(Value.int .u64 x0), (Value.int .u64 x1)] H P :=
  r_fn T0_ok (c := code) (n := 30) Try.func187 body (by kernel_rfl) (main P) (En_mk (x0, x1, ()) (by kernel_rfl) ⟨by kernel_rfl, by kernel_rfl, trivial⟩ h)

end F187
-- (*loop.example/g01329/impl.painter).take
namespace F188
noncomputable def ret (P : PT) : EP := retE T0 41 Try.f188 P
abbrev k0 : Sk := [(0,.v),(1,.i .i64)]
noncomputable def o1 := ob Try.f188 [.r]
def B1 (P : PT) (x0 : Value) (x1 : Int) (H : AHeap) : Prop :=
  nilK x0 (fun v1 => asP v1 (fun b2 o3 => ld1 H b2 (o3 + 3) (fun v4 => idxK v4 x1 1 (fun b5 o6 => stK H b5 o6 [(Value.int .i64 (-1))] (fun H7 => P (Value.tuple ⟨[]⟩) H7)))))
theorem q1 (P : PT) : QB Try.prog T0 41 o1 (ret P) k0 (B1 P) := fun _ _ _ _  => by kernel_rfl
abbrev k1 : Sk := [(0,.v),(1,.i .i64),(13,.g [.i,.i]),(14,.i .i64)]
noncomputable def o3 := ob Try.f188 [.l,.r,.l,.l,.r,.r,.r]
def B3 (P : PT) (N2 : NTy k1 Pr) (x0 : Value) (x1 x13a x13b x14 : Int) (H : AHeap) : Prop :=
  N2 x0 x1 x13a x13b (IntKind.i64.wrap (x14 + 1)) H
theorem q3 (P : PT) (N2 : NTy k1 Pr) : QB Try.prog T0 41 o3 (En 41 k1 N2) k1 (B3 P N2) := fun _ _ _ _ _ _ _  => by kernel_rfl
abbrev k2 : Sk := [(0,.v),(1,.i .i64),(5,.i .i64),(13,.g [.i,.i]),(14,.i .i64)]
noncomputable def o4 := ob Try.f188 [.l,.r,.l,.l,.r,.r,.l,.l,.r]
def B4 (P : PT) (N2 : NTy k1 Pr) (x0 : Value) (x1 x5 x13a x13b x14 : Int) (H : AHeap) : Prop :=
  nilK x0 (fun v1 => asP v1 (fun b2 o3 => ld1 H b2 (o3 + 4) (fun v4 => idxK v4 x5 1 (fun b5 o6 => ldI .u64 H b5 o6 (fun v7 => nilK x0 (fun v8 => asP v8 (fun b9 o10 => ld1 H b9 (o10 + 3) (fun v11 => idxK v11 x1 1 (fun b12 o13 => ldI .i64 H b12 o13 (fun v14 => ((0 : Int) ≤ v14) ∧ (idxK v4 x5 1 (fun b15 o16 => stK H b15 o16 [(Value.int .u64 (IntKind.u64.wrap (BitVec.ofInt 64 v7 &&& ~~~(BitVec.ofInt 64 (IntKind.u64.wrap (1 * 2 ^ (min (Int.toNat v14) 64))))).toNat))] (fun H17 => B3 P N2 x0 x1 x13a x13b x14 H17)))))))))))))
theorem q4 (P : PT) (N2 : NTy k1 Pr) : QD Try.prog T0 41 o4 [(0, false), (1, false), (2, false), (3, false), (4, false), (5, false), (6, false), (7, false), (8, false), (9, false), (10, false), (11, false), (12, false), (13, false), (14, false), (15, false), (16, false), (17, false)] (En 41 k1 (B3 P N2)) k2 (B4 P N2) := fun _ _ _ _ _ _ _ _  => by kernel_rfl
noncomputable def o5 := ob Try.f188 [.l,.r,.l,.l,.r,.r,.l,.l,.l]
def B5 (P : PT) (N2 : NTy k1 Pr) (x0 : Value) (x1 x13a x13b x14 : Int) (H : AHeap) : Prop :=
  bndK x14 2 (atK [(Value.int .i64 x13a), (Value.int .i64 x13b)] (Int.toNat x14 * 1) (fun v1 => asI .i64 v1 (fun v2 => B4 P N2 x0 x1 v2 x13a x13b x14 H)))
theorem q5 (P : PT) (N2 : NTy k1 Pr) : QB Try.prog T0 41 o5 (En 41 k2 (B4 P N2)) k1 (B5 P N2) := fun _ _ _ _ _ _ _  => by kernel_rfl
noncomputable def o6 := ob Try.f188 [.l,.r,.l,.l,.l]
def B6 (P : PT) (N2 : NTy k1 Pr) (x0 : Value) (x1 x13a x13b x14 : Int) (H : AHeap) : Prop :=
  pif (decide ((x14 : Int) < 2)) (B5 P N2 x0 x1 x13a x13b x14 H) (B1 P x0 x1 H)
theorem q6 (P : PT) (N2 : NTy k1 Pr) : QB Try.prog T0 41 o6 (cnd 15 (En 41 k1 (B5 P N2)) (En 41 k0 (B1 P))) k1 (B6 P N2) := fun _ _ _ _ _ _ _  => by kernel_rfl
def L2 (P : PT) (x0 : Value) (x1 x13a x13b x14 : Int) (H : AHeap) : Prop :=
  ∃ (I : NTy k1 Pr) (μ : NTy k1 (AHeap → Nat)), I x0 x1 x13a x13b x14 H ∧ ∀ y0 y1 y13a y13b y14 G, I y0 y1 y13a y13b y14 G → B6 P (fun z0 z1 z13a z13b z14 G' => I z0 z1 z13a z13b z14 G' ∧ μ z0 z1 z13a z13b z14 G' < μ y0 y1 y13a y13b y14 G) y0 y1 y13a y13b y14 G
theorem l2 (P : PT) : LQ k1 (L2 P) (B6 P) := fun ⟨_,_,_,_,_,_⟩ _ ⟨I, μ, h0, hI⟩ => ⟨apT _ I, apT _ μ, h0, fun ⟨_,_,_,_,_,_⟩ _ h => hI _ _ _ _ _ _  h⟩
noncomputable def o7 := ob Try.f188 [.l,.l]
def B7 (P : PT) (x0 : Value) (x1 : Int) (H : AHeap) : Prop :=
  nilK x0 (fun v1 => asP v1 (fun b2 o3 => ld1 H b2 (o3 + 1) (fun v4 => idxK v4 x1 2 (fun b5 o6 => ldI .i64 H b5 o6 (fun v7 => ldI .i64 H b5 (o6 + 1) (fun v8 => L2 P x0 x1 v7 v8 0 H))))))
theorem q7 (P : PT) : QB Try.prog T0 41 o7 (En 41 k1 (L2 P)) k0 (B7 P) := fun _ _ _ _  => by kernel_rfl
noncomputable def code : Code := (.seq (.seq (.region 0 ⟨o7⟩ false) (.block 0 (.loop (.seq (.region 1 ⟨o6⟩ false) (.seq (.cond (.tmp 15) .skip (.exit 0)) (.seq (.block 1 (.seq (.region 2 ⟨o5⟩ false) (.region 3 ⟨o4⟩ true))) (.region 4 ⟨o3⟩ false))))))) (.region 5 ⟨o1⟩ false))
theorem body : Try.f188.body = some code := by kernel_rfl
theorem main (P : PT) : ∀ env H, (En 41 k0 (B7 P)) env H → AW Try.prog T0 code env H (mkQ (ret P) (fun _ _ _ => False) (ret P)) :=
  (r_seq (r_seq (rB T0_ok (q7 P)) (r_block (rL (l2 P) (fun N2 => (r_seq (rB T0_ok (q6 P N2)) (r_seq (r_cond rfl r_skip (r_exit (fun _ _ h => h))) (r_seq (r_block (r_seq (rB T0_ok (q5 P N2)) (rD T0_ok mixed [(0, false), (1, false), (2, false), (3, false), (4, false), (5, false), (6, false), (7, false), (8, false), (9, false), (10, false), (11, false), (12, false), (13, false), (14, false), (15, false), (16, false), (17, false)] (by kernel_rfl) (q4 P N2)))) (rB T0_ok (q3 P N2))))))))) (rB T0_ok (q1 P)))
theorem ac (P : PT) (x0 : Value) (x1 : Int) (H : AHeap) (h : B7 P x0 x1 H) : AC Try.prog T0 188 [x0, (Value.int .i64 x1)] H P :=
  r_fn T0_ok (c := code) (n := 41) Try.func188 body (by kernel_rfl) (main P) (En_mk (x0, x1, ()) (by kernel_rfl) ⟨by kernel_rfl, by kernel_rfl, trivial⟩ h)

end F188
-- cmp.isNaN[int64]
namespace F199
noncomputable def ret (P : PT) : EP := retE T0 6 Try.f199 P
abbrev k0 : Sk := [(0,.i .i64)]
noncomputable def o1 := ob Try.f199 [.r,.l]
def B1 (P : PT) (x0 : Int) (H : AHeap) : Prop :=
  P (Value.bool ((x0 : Int) != x0)) H
theorem q1 (P : PT) : QB Try.prog T0 6 o1 (ret P) k0 (B1 P) := fun _ _ _  => by kernel_rfl
noncomputable def o2 := ob Try.f199 [.l]
def B2 (P : PT) (x0 : Int) (H : AHeap) : Prop :=
  B1 P x0 H
theorem q2 (P : PT) : QB Try.prog T0 6 o2 (En 6 k0 (B1 P)) k0 (B2 P) := fun _ _ _  => by kernel_rfl
noncomputable def code : Code := (.seq (.region 0 ⟨o2⟩ false) (.seq (.region 1 ⟨o1⟩ false) .ret))
theorem body : Try.f199.body = some code := by kernel_rfl
theorem main (P : PT) : ∀ env H, (En 6 k0 (B2 P)) env H → AW Try.prog T0 code env H (mkQ (ret P) (fun _ _ _ => False) (ret P)) :=
  (r_seq (rB T0_ok (q2 P)) (r_seq (rB T0_ok (q1 P)) r_ret))
theorem ac (P : PT) (x0 : Int) (H : AHeap) (h : B2 P x0 H) : AC Try.prog T0 199 [(Value.int .i64 x0)] H P :=
  r_fn T0_ok (c := code) (n := 6) Try.func199 body (by kernel_rfl) (main P) (En_mk (x0, ()) (by kernel_rfl) ⟨by kernel_rfl, trivial⟩ h)

end F199
-- math/bits.Mul64
namespace F201
noncomputable def ret (P : PT) : EP := retE T0 51 Try.f201 P
abbrev k0 : Sk := [(0,.i .u64),(1,.i .u64),(4,.i .u64)]
noncomputable def o1 := ob Try.f201 [.r,.r,.r,.r,.r,.r,.r,.r,.r,.r,.r,.l]
def B1 (P : PT) (x0 x1 x4 : Int) (H : AHeap) : Prop :=
  P (Value.tuple ⟨[(Value.int .u64 x4), (Value.int .u64 (IntKind.u64.wrap (x0 * x1)))]⟩) H
theorem q1 (P : PT) : QB Try.prog T0 51 o1 (ret P) k0 (B1 P) := fun _ _ _ _ _  => by kernel_rfl
abbrev k1 : Sk := [(0,.i .u64),(1,.i .u64),(7,.i .u64),(9,.i .u64),(12,.i .u64),(13,.i .u64)]
noncomputable def o2 := ob Try.f201 [.r,.r,.r,.r,.r,.r,.r,.r,.r,.r,.l]
def B2 (P : PT) (x0 x1 x7 x9 x12 x13 : Int) (H : AHeap) : Prop :=
  ((0 : Int) ≤ 32) ∧ (B1 P x0 x1 (IntKind.u64.wrap ((IntKind.u64.wrap ((IntKind.u64.wrap (x7 * x9)) + x13)) + (Int.fdiv x12 (2 ^ (min (Int.toNat 32) 64))))) H)
theorem q2 (P : PT) : QB Try.prog T0 51 o2 (En 51 k0 (B1 P)) k1 (B2 P) := fun _ _ _ _ _ _ _ _  => by kernel_rfl
abbrev k2 : Sk := [(0,.i .u64),(1,.i .u64),(6,.i .u64),(7,.i .u64),(9,.i .u64),(12,.i .u64),(13,.i .u64)]
noncomputable def o3 := ob Try.f201 [.r,.r,.r,.r,.r,.r,.r,.r,.r,.l]
def B3 (P : PT) (x0 x1 x6 x7 x9 x12 x13 : Int) (H : AHeap) : Prop :=
  B2 P x0 x1 x7 x9 (IntKind.u64.wrap (x12 + (IntKind.u64.wrap (x6 * x9)))) x13 H
theorem q3 (P : PT) : QB Try.prog T0 51 o3 (En 51 k1 (B2 P)) k2 (B3 P) := fun _ _ _ _ _ _ _ _ _  => by kernel_rfl
abbrev k3 : Sk := [(0,.i .u64),(1,.i .u64),(6,.i .u64),(7,.i .u64),(9,.i .u64),(11,.i .u64),(12,.i .u64)]
noncomputable def o4 := ob Try.f201 [.r,.r,.r,.r,.r,.r,.r,.r,.l]
def B4 (P : PT) (x0 x1 x6 x7 x9 x11 x12 : Int) (H : AHeap) : Prop :=
  ((0 : Int) ≤ 32) ∧ (B3 P x0 x1 x6 x7 x9 x12 (Int.fdiv x11 (2 ^ (min (Int.toNat 32) 64))) H)
theorem q4 (P : PT) : QB Try.prog T0 51 o4 (En 51 k2 (B3 P)) k3 (B4 P) := fun _ _ _ _ _ _ _ _ _  => by kernel_rfl
abbrev k4 : Sk := [(0,.i .u64),(1,.i .u64),(6,.i .u64),(7,.i .u64),(9,.i .u64),(11,.i .u64)]
noncomputable def o5 := ob Try.f201 [.r,.r,.r,.r,.r,.r,.r,.l]
def B5 (P : PT) (x0 x1 x6 x7 x9 x11 : Int) (H : AHeap) : Prop :=
  B4 P x0 x1 x6 x7 x9 x11 (IntKind.u64.wrap (BitVec.ofInt 64 x11 &&& BitVec.ofInt 64 4294967295).toNat) H
theorem q5 (P : PT) : QB Try.prog T0 51 o5 (En 51 k3 (B4 P)) k4 (B5 P) := fun _ _ _ _ _ _ _ _  => by kernel_rfl
abbrev k5 : Sk := [(0,.i .u64),(1,.i .u64),(6,.i .u64),(7,.i .u64),(8,.i .u64),(9,.i .u64),(10,.i .u64)]
noncomputable def o6 := ob Try.f201 [.r,.r,.r,.r,.r,.r,.l]
def B6 (P : PT) (x0 x1 x6 x7 x8 x9 x10 : Int) (H : AHeap) : Prop :=
  ((0 : Int) ≤ 32) ∧ (B5 P x0 x1 x6 x7 x9 (IntKind.u64.wrap ((IntKind.u64.wrap (x7 * x8)) + (Int.fdiv x10 (2 ^ (min (Int.toNat 32) 64))))) H)
theorem q6 (P : PT) : QB Try.prog T0 51 o6 (En 51 k4 (B5 P)) k5 (B6 P) := fun _ _ _ _ _ _ _ _ _  => by kernel_rfl
abbrev k6 : Sk := [(0,.i .u64),(1,.i .u64),(6,.i .u64),(7,.i .u64),(8,.i .u64),(9,.i .u64)]
noncomputable def o7 := ob Try.f201 [.r,.r,.r,.r,.r,.l]
def B7 (P : PT) (x0 x1 x6 x7 x8 x9 : Int) (H : AHeap) : Prop :=
  B6 P x0 x1 x6 x7 x8 x9 (IntKind.u64.wrap (x6 * x8)) H
theorem q7 (P : PT) : QB Try.prog T0 51 o7 (En 51 k5 (B6 P)) k6 (B7 P) := fun _ _ _ _ _ _ _ _  => by kernel_rfl
abbrev k7 : Sk := [(0,.i .u64),(1,.i .u64),(6,.i .u64),(7,.i .u64),(8,.i .u64)]
noncomputable def o8 := ob Try.f201 [.r,.r,.r,.r,.l]
def B8 (P : PT) (x0 x1 x6 x7 x8 : Int) (H : AHeap) : Prop :=
  ((0 : Int) ≤ 32) ∧ (B7 P x0 x1 x6 x7 x8 (Int.fdiv x1 (2 ^ (min (Int.toNat 32) 64))) H)
theorem q8 (P : PT) : QB Try.prog T0 51 o8 (En 51 k6 (B7 P)) k7 (B8 P) := fun _ _ _ _ _ _ _  => by kernel_rfl
abbrev k8 : Sk := [(0,.i .u64),(1,.i .u64),(6,.i .u64),(7,.i .u64)]
noncomputable def o9 := ob Try.f201 [.r,.r,.r,.l]
def B9 (P : PT) (x0 x1 x6 x7 : Int) (H : AHeap) : Prop :=
  B8 P x0 x1 x6 x7 (IntKind.u64.wrap (BitVec.ofInt 64 x1 &&& BitVec.ofInt 64 4294967295).toNat) H
theorem q9 (P : PT) : QB Try.prog T0 51 o9 (En 51 k7 (B8 P)) k8 (B9 P) := fun _ _ _ _ _ _  => by kernel_rfl
abbrev k9 : Sk := [(0,.i .u64),(1,.i .u64),(6,.i .u64)]
noncomputable def o10 := ob Try.f201 [.r,.r,.l]
def B10 (P : PT) (x0 x1 x6 : Int) (H : AHeap) : Prop :=
  ((0 : Int) ≤ 32) ∧ (B9 P x0 x1 x6 (Int.fdiv x0 (2 ^ (min (Int.toNat 32) 64))) H)
theorem q10 (P : PT) : QB Try.prog T0 51 o10 (En 51 k8 (B9 P)) k9 (B10 P) := fun _ _ _ _ _  => by kernel_rfl
abbrev k10 : Sk := [(0,.i .u64),(1,.i .u64)]
noncomputable def o11 := ob Try.f201 [.r,.l]
def B11 (P : PT) (x0 x1 : Int) (H : AHeap) : Prop :=
  B10 P x0 x1 (IntKind.u64.wrap (BitVec.ofInt 64 x0 &&& BitVec.ofInt 64 4294967295).toNat) H
theorem q11 (P : PT) : QB Try.prog T0 51 o11 (En 51 k9 (B10 P)) k10 (B11 P) := fun _ _ _ _  => by kernel_rfl
noncomputable def o12 := ob Try.f201 [.l]
def B12 (P : PT) (x0 x1 : Int) (H : AHeap) : Prop :=
  B11 P x0 x1 H
theorem q12 (P : PT) : QB Try.prog T0 51 o12 (En 51 k10 (B11 P)) k10 (B12 P) := fun _ _ _ _  => by kernel_rfl
noncomputable def code : Code := (.seq (.region 0 ⟨o12⟩ false) (.seq (.region 1 ⟨o11⟩ false) (.seq (.region 2 ⟨o10⟩ false) (.seq (.region 3 ⟨o9⟩ false) (.seq (.region 4 ⟨o8⟩ false) (.seq (.region 5 ⟨o7⟩ false) (.seq (.region 6 ⟨o6⟩ false) (.seq (.region 7 ⟨o5⟩ false) (.seq (.region 8 ⟨o4⟩ false) (.seq (.region 9 ⟨o3⟩ false) (.seq (.region 10 ⟨o2⟩ false) (.seq (.region 11 ⟨o1⟩ false) .ret))))))))))))
theorem body : Try.f201.body = some code := by kernel_rfl
theorem main (P : PT) : ∀ env H, (En 51 k10 (B12 P)) env H → AW Try.prog T0 code env H (mkQ (ret P) (fun _ _ _ => False) (ret P)) :=
  (r_seq (rB T0_ok (q12 P)) (r_seq (rB T0_ok (q11 P)) (r_seq (rB T0_ok (q10 P)) (r_seq (rB T0_ok (q9 P)) (r_seq (rB T0_ok (q8 P)) (r_seq (rB T0_ok (q7 P)) (r_seq (rB T0_ok (q6 P)) (r_seq (rB T0_ok (q5 P)) (r_seq (rB T0_ok (q4 P)) (r_seq (rB T0_ok (q3 P)) (r_seq (rB T0_ok (q2 P)) (r_seq (rB T0_ok (q1 P)) r_ret))))))))))))
theorem ac (P : PT) (x0 x1 : Int) (H : AHeap) (h : B12 P x0 x1 H) : AC Try.prog T0 201 [(Value.int .u64 x0), (Value.int .u64 x1)] H P :=
  r_fn T0_ok (c := code) (n := 51) Try.func201 body (by kernel_rfl) (main P) (En_mk (x0, x1, ()) (by kernel_rfl) ⟨by kernel_rfl, by kernel_rfl, trivial⟩ h)

end F201
end Go.Proofs
