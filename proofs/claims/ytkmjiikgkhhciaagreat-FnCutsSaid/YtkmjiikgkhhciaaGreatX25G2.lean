import Derived.Test.YtkmjiikgkhhciaaGreatT
set_option linter.unusedVariables false
set_option maxRecDepth 100000
namespace Go.Proofs
open Go.Abs
-- loop.example/g01329/impl.isSet
namespace F98
noncomputable def ret (P : PT) : EP := retE T0 33 Tryz.f98 P
abbrev k0 : Sk := []
noncomputable def o1 := ob Tryz.f98 [.r,.r,.l]
def B1 (P : PT) (H : AHeap) : Prop :=
  P (Value.bool true) H
theorem q1 (P : PT) : QB Tryz.prog T0 33 o1 (ret P) k0 (B1 P) := fun _ _  => by kernel_rfl
abbrev k1 : Sk := [(0,.v),(1,.i .i64),(7,.v),(8,.i .i64),(9,.i .i64)]
noncomputable def o3 := ob Tryz.f98 [.r,.l,.r,.l,.l,.r,.r,.r]
def B3 (P : PT) (N2 : NTy k1 Pr) (x0 : Value) (x1 : Int) (x7 : Value) (x8 x9 : Int) (H : AHeap) : Prop :=
  N2 x0 x1 x7 x8 (IntKind.i64.wrap (x9 + 1)) H
theorem q3 (P : PT) (N2 : NTy k1 Pr) : QB Tryz.prog T0 33 o3 (En 33 k1 N2) k1 (B3 P N2) := fun _ _ _ _ _ _ _  => by kernel_rfl
noncomputable def o4 := ob Tryz.f98 [.r,.l,.r,.l,.l,.r,.r,.l,.l,.r,.r,.l,.l]
def B4 (P : PT) (N2 : NTy k1 Pr) (H : AHeap) : Prop :=
  P (Value.bool false) H
theorem q4 (P : PT) (N2 : NTy k1 Pr) : QB Tryz.prog T0 33 o4 (ret P) k0 (B4 P N2) := fun _ _  => by kernel_rfl
abbrev k2 : Sk := [(0,.v),(1,.i .i64),(5,.i .i64),(6,.i .i64),(7,.v),(8,.i .i64),(9,.i .i64)]
noncomputable def o5 := ob Tryz.f98 [.r,.l,.r,.l,.l,.r,.r,.l,.l,.r,.l]
def B5 (P : PT) (N2 : NTy k1 Pr) (x0 : Value) (x1 x5 x6 : Int) (x7 : Value) (x8 x9 : Int) (H : AHeap) : Prop :=
  AC Tryz.prog T0 77 [(Value.int .i64 x6), (Value.int .i64 0), (Value.int .i64 (IntKind.i64.wrap (x1 - 1)))] H (fun v1 H2 => asB v1 (fun v3 => pif (!v3) (B4 P N2 H2) (pif (decide ((x5 : Int) > 0)) (idxK x0 (IntKind.i64.wrap (x5 - 1)) 1 (fun b4 o5 => ldI .i64 H2 b4 o5 (fun v6 => pif (decide ((x6 : Int) ≤ v6)) (B4 P N2 H2) (B3 P N2 x0 x1 x7 x8 x9 H2)))) (B3 P N2 x0 x1 x7 x8 x9 H2))))
theorem q5 (P : PT) (N2 : NTy k1 Pr) : QB Tryz.prog T0 33 o5 (cnd 31 (En 33 k0 (B4 P N2)) (En 33 k1 (B3 P N2))) k2 (B5 P N2) := fun _ _ _ _ _ _ _ _ _  => by kernel_rfl
noncomputable def o6 := ob Tryz.f98 [.r,.l,.r,.l,.l,.r,.r,.l,.l,.l]
def B6 (P : PT) (N2 : NTy k1 Pr) (x0 : Value) (x1 : Int) (x7 : Value) (x8 x9 : Int) (H : AHeap) : Prop :=
  idxK x7 x9 1 (fun b1 o2 => ldI .i64 H b1 o2 (fun v3 => B5 P N2 x0 x1 x9 v3 x7 x8 x9 H))
theorem q6 (P : PT) (N2 : NTy k1 Pr) : QB Tryz.prog T0 33 o6 (En 33 k2 (B5 P N2)) k1 (B6 P N2) := fun _ _ _ _ _ _ _  => by kernel_rfl
noncomputable def o7 := ob Tryz.f98 [.r,.l,.r,.l,.l,.l]
def B7 (P : PT) (N2 : NTy k1 Pr) (x0 : Value) (x1 : Int) (x7 : Value) (x8 x9 : Int) (H : AHeap) : Prop :=
  pif (decide ((x9 : Int) < x8)) (B6 P N2 x0 x1 x7 x8 x9 H) (B1 P H)
theorem q7 (P : PT) (N2 : NTy k1 Pr) : QB Tryz.prog T0 33 o7 (cnd 10 (En 33 k1 (B6 P N2)) (En 33 k0 (B1 P))) k1 (B7 P N2) := fun _ _ _ _ _ _ _  => by kernel_rfl
def L2 (P : PT) (x0 : Value) (x1 : Int) (x7 : Value) (x8 x9 : Int) (H : AHeap) : Prop :=
  ∃ (I : NTy k1 Pr) (μ : NTy k1 (AHeap → Nat)), I x0 x1 x7 x8 x9 H ∧ ∀ y0 y1 y7 y8 y9 G, I y0 y1 y7 y8 y9 G → B7 P (fun z0 z1 z7 z8 z9 G' => I z0 z1 z7 z8 z9 G' ∧ μ z0 z1 z7 z8 z9 G' < μ y0 y1 y7 y8 y9 G) y0 y1 y7 y8 y9 G
theorem l2 (P : PT) : LQ k1 (L2 P) (B7 P) := fun ⟨_,_,_,_,_,_⟩ _ ⟨I, μ, h0, hI⟩ => ⟨apT _ I, apT _ μ, h0, fun ⟨_,_,_,_,_,_⟩ _ h => hI _ _ _ _ _ _  h⟩
abbrev k3 : Sk := [(0,.v),(1,.i .i64)]
noncomputable def o8 := ob Tryz.f98 [.r,.l,.l]
def B8 (P : PT) (x0 : Value) (x1 : Int) (H : AHeap) : Prop :=
  lenK x0 (fun n1 => L2 P x0 x1 x0 (n1 : Int) 0 H)
theorem q8 (P : PT) : QB Tryz.prog T0 33 o8 (En 33 k1 (L2 P)) k3 (B8 P) := fun _ _ _ _  => by kernel_rfl
noncomputable def o9 := ob Tryz.f98 [.l]
def B9 (P : PT) (x0 : Value) (x1 : Int) (H : AHeap) : Prop :=
  B8 P x0 x1 H
theorem q9 (P : PT) : QB Tryz.prog T0 33 o9 (En 33 k3 (B8 P)) k3 (B9 P) := fun _ _ _ _  => by kernel_rfl
noncomputable def code : Code := (.seq (.region 0 ⟨o9⟩ false) (.seq (.seq (.region 1 ⟨o8⟩ false) (.block 0 (.loop (.seq (.region 2 ⟨o7⟩ false) (.seq (.cond (.tmp 10) .skip (.exit 0)) (.seq (.block 1 (.seq (.region 3 ⟨o6⟩ false) (.seq (.region 4 ⟨o5⟩ false) (.cond (.tmp 31) (.seq (.region 5 ⟨o4⟩ false) .ret) .skip)))) (.region 6 ⟨o3⟩ false))))))) (.seq (.region 7 ⟨o1⟩ false) .ret)))
theorem body : Tryz.f98.body = some code := by kernel_rfl
theorem main (P : PT) : ∀ env H, (En 33 k3 (B9 P)) env H → AW Tryz.prog T0 code env H (mkQ (ret P) (fun _ _ _ => False) (ret P)) :=
  (r_seq (rB T0_ok (q9 P)) (r_seq (r_seq (rB T0_ok (q8 P)) (r_block (rL (l2 P) (fun N2 => (r_seq (rB T0_ok (q7 P N2)) (r_seq (r_cond rfl r_skip (r_exit (fun _ _ h => h))) (r_seq (r_block (r_seq (rB T0_ok (q6 P N2)) (r_seq (rB T0_ok (q5 P N2)) (r_cond rfl (r_seq (rB T0_ok (q4 P N2)) r_ret) r_skip)))) (rB T0_ok (q3 P N2))))))))) (r_seq (rB T0_ok (q1 P)) r_ret)))
theorem ac (P : PT) (x0 : Value) (x1 : Int) (H : AHeap) (h : B9 P x0 x1 H) : AC Tryz.prog T0 98 [x0, (Value.int .i64 x1)] H P :=
  r_fn T0_ok (c := code) (n := 33) Tryz.func98 body (by kernel_rfl) (main P) (En_mk (x0, x1, ()) (by kernel_rfl) ⟨by kernel_rfl, by kernel_rfl, trivial⟩ h)

end F98
-- (loop.example/g01329/impl.Graph).leaving
namespace F99
noncomputable def ret (P : PT) : EP := retE T0 31 Tryz.f99 P
abbrev k0 : Sk := [(5,.v)]
noncomputable def o1 := ob Tryz.f99 [.r,.r,.r,.l]
def B1 (P : PT) (x5 : Value) (H : AHeap) : Prop :=
  P x5 H
theorem q1 (P : PT) : QB Tryz.prog T0 31 o1 (ret P) k0 (B1 P) := fun _ _ _  => by kernel_rfl
abbrev k1 : Sk := [(1,.i .u64),(5,.v),(9,.v),(10,.i .i64),(11,.i .i64)]
noncomputable def o3 := ob Tryz.f99 [.r,.r,.l,.r,.l,.l,.r,.r,.r]
def B3 (P : PT) (N2 : NTy k1 Pr) (x1 : Int) (x5 x9 : Value) (x10 x11 : Int) (H : AHeap) : Prop :=
  N2 x1 x5 x9 x10 (IntKind.i64.wrap (x11 + 1)) H
theorem q3 (P : PT) (N2 : NTy k1 Pr) : QB Tryz.prog T0 31 o3 (En 31 k1 N2) k1 (B3 P N2) := fun _ _ _ _ _ _ _  => by kernel_rfl
abbrev k2 : Sk := [(1,.i .u64),(5,.v),(6,.i .i64),(9,.v),(10,.i .i64),(11,.i .i64)]
noncomputable def o4 := ob Tryz.f99 [.r,.r,.l,.r,.l,.l,.r,.r,.l,.l,.r,.r,.l]
def B4 (P : PT) (N2 : NTy k1 Pr) (x1 : Int) (x5 : Value) (x6 : Int) (x9 : Value) (x10 x11 : Int) (H : AHeap) : Prop :=
  newK H [(Value.int .i64 x6)] 2 (fun b1 H2 => apK T0 2 H2 x5 (Value.slice (some ⟨b1, 0, none⟩) 1 (1 + 1)) (fun v3 H4 => B3 P N2 x1 v3 x9 x10 x11 H4))
theorem q4 (P : PT) (N2 : NTy k1 Pr) : QB Tryz.prog T0 31 o4 (En 31 k1 (B3 P N2)) k2 (B4 P N2) := fun _ _ _ _ _ _ _ _  => by kernel_rfl
abbrev k3 : Sk := [(1,.i .u64),(5,.v),(6,.i .i64),(7,.x),(9,.v),(10,.i .i64),(11,.i .i64)]
noncomputable def o5 := ob Tryz.f99 [.r,.r,.l,.r,.l,.l,.r,.r,.l,.l,.r,.l]
def B5 (P : PT) (N2 : NTy k1 Pr) (x1 : Int) (x5 : Value) (x6 : Int) (x7 : Nat) (x9 : Value) (x10 x11 : Int) (H : AHeap) : Prop :=
  ldI .i64 H x7 0 (fun v1 => ldI .i64 H x7 1 (fun v2 => AC Tryz.prog T0 134 [(Value.int .u64 x1), (Value.int .i64 v1)] H (fun v3 H4 => asB v3 (fun v5 => (AHeap.le H H4) ∧ (AC Tryz.prog T0 134 [(Value.int .u64 x1), (Value.int .i64 v2)] H4 (fun v6 H7 => asB v6 (fun v8 => pif (!(v5 == v8)) (B4 P N2 x1 x5 x6 x9 x10 x11 H7) (B3 P N2 x1 x5 x9 x10 x11 H7))))))))
theorem q5 (P : PT) (N2 : NTy k1 Pr) : QD Tryz.prog T0 31 o5 [(0, false), (1, false), (2, false), (4, false), (5, false), (6, false), (3, true), (7, false), (8, false)] (cnd 24 (En 31 k2 (B4 P N2)) (En 31 k1 (B3 P N2))) k3 (B5 P N2) := fun _ _ _ _ _ _ _ _ _  => by kernel_rfl
noncomputable def o6 := ob Tryz.f99 [.r,.r,.l,.r,.l,.l,.r,.r,.l,.l,.l]
def B6 (P : PT) (N2 : NTy k1 Pr) (x1 : Int) (x5 x9 : Value) (x10 x11 : Int) (H : AHeap) : Prop :=
  idxK x9 x11 2 (fun b1 o2 => ldI .i64 H b1 o2 (fun v3 => ldI .i64 H b1 (o2 + 1) (fun v4 => newK H [(Value.int .i64 0), (Value.int .i64 0)] 78 (fun b5 H6 => stK H6 b5 0 [(Value.int .i64 v3), (Value.int .i64 v4)] (fun H7 => B5 P N2 x1 x5 x11 b5 x9 x10 x11 H7)))))
theorem q6 (P : PT) (N2 : NTy k1 Pr) : QB Tryz.prog T0 31 o6 (En 31 k3 (B5 P N2)) k1 (B6 P N2) := fun _ _ _ _ _ _ _  => by kernel_rfl
noncomputable def o7 := ob Tryz.f99 [.r,.r,.l,.r,.l,.l,.l]
def B7 (P : PT) (N2 : NTy k1 Pr) (x1 : Int) (x5 x9 : Value) (x10 x11 : Int) (H : AHeap) : Prop :=
  pif (decide ((x11 : Int) < x10)) (B6 P N2 x1 x5 x9 x10 x11 H) (B1 P x5 H)
theorem q7 (P : PT) (N2 : NTy k1 Pr) : QB Tryz.prog T0 31 o7 (cnd 12 (En 31 k1 (B6 P N2)) (En 31 k0 (B1 P))) k1 (B7 P N2) := fun _ _ _ _ _ _ _  => by kernel_rfl
def L2 (P : PT) (x1 : Int) (x5 x9 : Value) (x10 x11 : Int) (H : AHeap) : Prop :=
  ∃ (I : NTy k1 Pr) (μ : NTy k1 (AHeap → Nat)), I x1 x5 x9 x10 x11 H ∧ ∀ y1 y5 y9 y10 y11 G, I y1 y5 y9 y10 y11 G → B7 P (fun z1 z5 z9 z10 z11 G' => I z1 z5 z9 z10 z11 G' ∧ μ z1 z5 z9 z10 z11 G' < μ y1 y5 y9 y10 y11 G) y1 y5 y9 y10 y11 G
theorem l2 (P : PT) : LQ k1 (L2 P) (B7 P) := fun ⟨_,_,_,_,_,_⟩ _ ⟨I, μ, h0, hI⟩ => ⟨apT _ I, apT _ μ, h0, fun ⟨_,_,_,_,_,_⟩ _ h => hI _ _ _ _ _ _  h⟩
abbrev k4 : Sk := [(1,.i .u64),(2,.x),(5,.v)]
noncomputable def o8 := ob Tryz.f99 [.r,.r,.l,.l]
def B8 (P : PT) (x1 : Int) (x2 : Nat) (x5 : Value) (H : AHeap) : Prop :=
  ld1 H x2 1 (fun v1 => lenK v1 (fun n2 => L2 P x1 x5 v1 (n2 : Int) 0 H))
theorem q8 (P : PT) : QB Tryz.prog T0 31 o8 (En 31 k1 (L2 P)) k4 (B8 P) := fun _ _ _ _ _  => by kernel_rfl
abbrev k5 : Sk := [(1,.i .u64),(2,.x)]
noncomputable def o9 := ob Tryz.f99 [.r,.l]
def B9 (P : PT) (x1 : Int) (x2 : Nat) (H : AHeap) : Prop :=
  B8 P x1 x2 (Value.slice none 0 0) H
theorem q9 (P : PT) : QB Tryz.prog T0 31 o9 (En 31 k4 (B8 P)) k5 (B9 P) := fun _ _ _ _  => by kernel_rfl
abbrev k6 : Sk := [(0,.g [.i,.v]),(1,.i .u64)]
noncomputable def o10 := ob Tryz.f99 [.l]
def B10 (P : PT) (x0a : Int) (x0b : Value) (x1 : Int) (H : AHeap) : Prop :=
  newK H [(Value.int .i64 x0a), x0b] 26 (fun b1 H2 => B9 P x1 b1 H2)
theorem q10 (P : PT) : QB Tryz.prog T0 31 o10 (En 31 k5 (B9 P)) k6 (B10 P) := fun _ _ _ _ _  => by kernel_rfl
noncomputable def code : Code := (.seq (.region 0 ⟨o10⟩ false) (.seq (.region 1 ⟨o9⟩ false) (.seq (.seq (.region 2 ⟨o8⟩ false) (.block 0 (.loop (.seq (.region 3 ⟨o7⟩ false) (.seq (.cond (.tmp 12) .skip (.exit 0)) (.seq (.block 1 (.seq (.region 4 ⟨o6⟩ false) (.seq (.region 5 ⟨o5⟩ true) (.cond (.tmp 24) (.region 6 ⟨o4⟩ false) .skip)))) (.region 7 ⟨o3⟩ false))))))) (.seq (.region 8 ⟨o1⟩ false) .ret))))
theorem body : Tryz.f99.body = some code := by kernel_rfl
theorem main (P : PT) : ∀ env H, (En 31 k6 (B10 P)) env H → AW Tryz.prog T0 code env H (mkQ (ret P) (fun _ _ _ => False) (ret P)) :=
  (r_seq (rB T0_ok (q10 P)) (r_seq (rB T0_ok (q9 P)) (r_seq (r_seq (rB T0_ok (q8 P)) (r_block (rL (l2 P) (fun N2 => (r_seq (rB T0_ok (q7 P N2)) (r_seq (r_cond rfl r_skip (r_exit (fun _ _ h => h))) (r_seq (r_block (r_seq (rB T0_ok (q6 P N2)) (r_seq (rD T0_ok mixed [(0, false), (1, false), (2, false), (4, false), (5, false), (6, false), (3, true), (7, false), (8, false)] (by kernel_rfl) (q5 P N2)) (r_cond rfl (rB T0_ok (q4 P N2)) r_skip)))) (rB T0_ok (q3 P N2))))))))) (r_seq (rB T0_ok (q1 P)) r_ret))))
theorem ac (P : PT) (x0a : Int) (x0b : Value) (x1 : Int) (H : AHeap) (h : B10 P x0a x0b x1 H) : AC Tryz.prog T0 99 [(Value.agg ⟨[(Value.int .i64 x0a), x0b]⟩), (Value.int .u64 x1)] H P :=
  r_fn T0_ok (c := code) (n := 31) Tryz.func99 body (by kernel_rfl) (main P) (En_mk (x0a, x0b, x1, ()) (by kernel_rfl) ⟨by kernel_rfl, by kernel_rfl, trivial⟩ h)

end F99
-- loop.example/g01329/spec.l03Set
namespace F100
noncomputable def ret (P : PT) : EP := retE T0 36 Tryz.f100 P
abbrev k0 : Sk := []
noncomputable def o1 := ob Tryz.f100 [.r,.r,.l]
def B1 (P : PT) (H : AHeap) : Prop :=
  P (Value.int .i64 0) H
theorem q1 (P : PT) : QB Tryz.prog T0 36 o1 (ret P) k0 (B1 P) := fun _ _  => by kernel_rfl
abbrev k1 : Sk := [(0,.v),(1,.i .i64),(5,.i .i64)]
noncomputable def o3 := ob Tryz.f100 [.r,.l,.r,.l,.l,.r,.r]
def B3 (P : PT) (N2 : NTy k1 Pr) (x0 : Value) (x1 x5 : Int) (H : AHeap) : Prop :=
  N2 x0 x1 (IntKind.i64.wrap (x5 + 1)) H
theorem q3 (P : PT) (N2 : NTy k1 Pr) : QB Tryz.prog T0 36 o3 (En 36 k1 N2) k1 (B3 P N2) := fun _ _ _ _ _  => by kernel_rfl
noncomputable def o4 := ob Tryz.f100 [.r,.l,.r,.l,.l,.r,.l,.l,.r,.l,.l]
def B4 (P : PT) (N2 : NTy k1 Pr) (H : AHeap) : Prop :=
  P (Value.int .i64 2) H
theorem q4 (P : PT) (N2 : NTy k1 Pr) : QB Tryz.prog T0 36 o4 (ret P) k0 (B4 P N2) := fun _ _  => by kernel_rfl
noncomputable def o5 := ob Tryz.f100 [.r,.l,.r,.l,.l,.r,.l,.l,.l]
def B5 (P : PT) (N2 : NTy k1 Pr) (x0 : Value) (x1 x5 : Int) (H : AHeap) : Prop :=
  idxK x0 x5 1 (fun b1 o2 => ldI .i64 H b1 o2 (fun v3 => AC Tryz.prog T0 85 [(Value.int .i64 v3), (Value.int .i64 0), (Value.int .i64 (IntKind.i64.wrap (x1 - 1)))] H (fun v4 H5 => asB v4 (fun v6 => pif (!v6) (B4 P N2 H5) (pif (decide ((x5 : Int) > 0)) (idxK x0 x5 1 (fun b7 o8 => ldI .i64 H5 b7 o8 (fun v9 => idxK x0 (IntKind.i64.wrap (x5 - 1)) 1 (fun b10 o11 => ldI .i64 H5 b10 o11 (fun v12 => pif (decide ((v9 : Int) ≤ v12)) (B4 P N2 H5) (B3 P N2 x0 x1 x5 H5)))))) (B3 P N2 x0 x1 x5 H5))))))
theorem q5 (P : PT) (N2 : NTy k1 Pr) : QD Tryz.prog T0 36 o5 [(0, false), (1, false), (2, false), (3, false), (4, false), (5, false), (6, false), (7, false), (8, false), (9, false), (10, false), (11, false), (12, false), (13, false), (14, false), (15, false), (16, false), (17, false), (18, false), (19, false), (20, false), (21, false), (22, false), (23, false)] (cnd 35 (En 36 k0 (B4 P N2)) (En 36 k1 (B3 P N2))) k1 (B5 P N2) := fun _ _ _ _ _  => by kernel_rfl
noncomputable def o6 := ob Tryz.f100 [.r,.l,.r,.l,.l,.l,.l]
def B6 (P : PT) (N2 : NTy k1 Pr) (x0 : Value) (x1 x5 : Int) (H : AHeap) : Prop :=
  lenK x0 (fun n1 => pif (decide ((x5 : Int) < (n1 : Int))) (B5 P N2 x0 x1 x5 H) (B1 P H))
theorem q6 (P : PT) (N2 : NTy k1 Pr) : QB Tryz.prog T0 36 o6 (cnd 9 (En 36 k1 (B5 P N2)) (En 36 k0 (B1 P))) k1 (B6 P N2) := fun _ _ _ _ _  => by kernel_rfl
def L2 (P : PT) (x0 : Value) (x1 x5 : Int) (H : AHeap) : Prop :=
  ∃ (I : NTy k1 Pr) (μ : NTy k1 (AHeap → Nat)), I x0 x1 x5 H ∧ ∀ y0 y1 y5 G, I y0 y1 y5 G → B6 P (fun z0 z1 z5 G' => I z0 z1 z5 G' ∧ μ z0 z1 z5 G' < μ y0 y1 y5 G) y0 y1 y5 G
theorem l2 (P : PT) : LQ k1 (L2 P) (B6 P) := fun ⟨_,_,_,_⟩ _ ⟨I, μ, h0, hI⟩ => ⟨apT _ I, apT _ μ, h0, fun ⟨_,_,_,_⟩ _ h => hI _ _ _ _  h⟩
abbrev k2 : Sk := [(0,.v),(1,.i .i64)]
noncomputable def o7 := ob Tryz.f100 [.r,.l,.l]
def B7 (P : PT) (x0 : Value) (x1 : Int) (H : AHeap) : Prop :=
  L2 P x0 x1 0 H
theorem q7 (P : PT) : QB Tryz.prog T0 36 o7 (En 36 k1 (L2 P)) k2 (B7 P) := fun _ _ _ _  => by kernel_rfl
noncomputable def o8 := ob Tryz.f100 [.l]
def B8 (P : PT) (x0 : Value) (x1 : Int) (H : AHeap) : Prop :=
  B7 P x0 x1 H
theorem q8 (P : PT) : QB Tryz.prog T0 36 o8 (En 36 k2 (B7 P)) k2 (B8 P) := fun _ _ _ _  => by kernel_rfl
noncomputable def code : Code := (.seq (.region 0 ⟨o8⟩ false) (.seq (.seq (.region 1 ⟨o7⟩ false) (.block 0 (.loop (.seq (.seq (.region 2 ⟨o6⟩ false) (.cond (.tmp 9) .skip (.exit 0))) (.seq (.block 1 (.seq (.region 4 ⟨o5⟩ true) (.cond (.tmp 35) (.seq (.region 5 ⟨o4⟩ false) .ret) .skip))) (.region 3 ⟨o3⟩ false)))))) (.seq (.region 6 ⟨o1⟩ false) .ret)))
theorem body : Tryz.f100.body = some code := by kernel_rfl
theorem main (P : PT) : ∀ env H, (En 36 k2 (B8 P)) env H → AW Tryz.prog T0 code env H (mkQ (ret P) (fun _ _ _ => False) (ret P)) :=
  (r_seq (rB T0_ok (q8 P)) (r_seq (r_seq (rB T0_ok (q7 P)) (r_block (rL (l2 P) (fun N2 => (r_seq (r_seq (rB T0_ok (q6 P N2)) (r_cond rfl r_skip (r_exit (fun _ _ h => h)))) (r_seq (r_block (r_seq (rD T0_ok mixed [(0, false), (1, false), (2, false), (3, false), (4, false), (5, false), (6, false), (7, false), (8, false), (9, false), (10, false), (11, false), (12, false), (13, false), (14, false), (15, false), (16, false), (17, false), (18, false), (19, false), (20, false), (21, false), (22, false), (23, false)] (by kernel_rfl) (q5 P N2)) (r_cond rfl (r_seq (rB T0_ok (q4 P N2)) r_ret) r_skip))) (rB T0_ok (q3 P N2)))))))) (r_seq (rB T0_ok (q1 P)) r_ret)))
theorem ac (P : PT) (x0 : Value) (x1 : Int) (H : AHeap) (h : B8 P x0 x1 H) : AC Tryz.prog T0 100 [x0, (Value.int .i64 x1)] H P :=
  r_fn T0_ok (c := code) (n := 36) Tryz.func100 body (by kernel_rfl) (main P) (En_mk (x0, x1, ()) (by kernel_rfl) ⟨by kernel_rfl, by kernel_rfl, trivial⟩ h)

end F100
-- loop.example/g01329/spec.l03Leaving
namespace F101
noncomputable def ret (P : PT) : EP := retE T0 56 Tryz.f101 P
abbrev k0 : Sk := [(6,.v)]
noncomputable def o1 := ob Tryz.f101 [.r,.r,.r,.r,.l]
def B1 (P : PT) (x6 : Value) (H : AHeap) : Prop :=
  P x6 H
theorem q1 (P : PT) : QB Tryz.prog T0 56 o1 (ret P) k0 (B1 P) := fun _ _ _  => by kernel_rfl
abbrev k1 : Sk := [(2,.x),(5,.v),(6,.v),(8,.i .i64)]
noncomputable def o3 := ob Tryz.f101 [.r,.r,.r,.l,.r,.l,.l,.r,.r]
def B3 (P : PT) (N2 : NTy k1 Pr) (x2 : Nat) (x5 x6 : Value) (x8 : Int) (H : AHeap) : Prop :=
  N2 x2 x5 x6 (IntKind.i64.wrap (x8 + 1)) H
theorem q3 (P : PT) (N2 : NTy k1 Pr) : QB Tryz.prog T0 56 o3 (En 56 k1 N2) k1 (B3 P N2) := fun _ _ _ _ _ _  => by kernel_rfl
noncomputable def o4 := ob Tryz.f101 [.r,.r,.r,.l,.r,.l,.l,.r,.l,.l,.r,.l]
def B4 (P : PT) (N2 : NTy k1 Pr) (x2 : Nat) (x5 x6 : Value) (x8 : Int) (H : AHeap) : Prop :=
  newK H [(Value.int .i64 x8)] 2 (fun b1 H2 => apK T0 2 H2 x6 (Value.slice (some ⟨b1, 0, none⟩) 1 (1 + 1)) (fun v3 H4 => B3 P N2 x2 x5 v3 x8 H4))
theorem q4 (P : PT) (N2 : NTy k1 Pr) : QB Tryz.prog T0 56 o4 (En 56 k1 (B3 P N2)) k1 (B4 P N2) := fun _ _ _ _ _ _  => by kernel_rfl
noncomputable def o5 := ob Tryz.f101 [.r,.r,.r,.l,.r,.l,.l,.r,.l,.l,.l]
def B5 (P : PT) (N2 : NTy k1 Pr) (x2 : Nat) (x5 x6 : Value) (x8 : Int) (H : AHeap) : Prop :=
  ld1 H x2 1 (fun v1 => idxK v1 x8 2 (fun b2 o3 => ldI .i64 H b2 o3 (fun v4 => idxK x5 v4 1 (fun b5 o6 => ld1 H b5 o6 (fun v8 => asB v8 (fun v7 => ld1 H x2 1 (fun v9 => idxK v9 x8 2 (fun b10 o11 => ldI .i64 H b10 (o11 + 1) (fun v12 => idxK x5 v12 1 (fun b13 o14 => ld1 H b13 o14 (fun v16 => asB v16 (fun v15 => pif (!(v7 == v15)) (B4 P N2 x2 x5 x6 x8 H) (B3 P N2 x2 x5 x6 x8 H)))))))))))))
theorem q5 (P : PT) (N2 : NTy k1 Pr) : QD Tryz.prog T0 56 o5 [(0, false), (1, false), (2, false), (3, false), (4, false), (5, false), (6, false), (7, false), (8, false), (9, false), (10, false), (11, false), (12, false), (13, false), (14, false), (15, false), (16, false), (17, false), (18, false)] (cnd 50 (En 56 k1 (B4 P N2)) (En 56 k1 (B3 P N2))) k1 (B5 P N2) := fun _ _ _ _ _ _  => by kernel_rfl
noncomputable def o6 := ob Tryz.f101 [.r,.r,.r,.l,.r,.l,.l,.l,.l]
def B6 (P : PT) (N2 : NTy k1 Pr) (x2 : Nat) (x5 x6 : Value) (x8 : Int) (H : AHeap) : Prop :=
  ld1 H x2 1 (fun v1 => lenK v1 (fun n2 => pif (decide ((x8 : Int) < (n2 : Int))) (B5 P N2 x2 x5 x6 x8 H) (B1 P x6 H)))
theorem q6 (P : PT) (N2 : NTy k1 Pr) : QB Tryz.prog T0 56 o6 (cnd 29 (En 56 k1 (B5 P N2)) (En 56 k0 (B1 P))) k1 (B6 P N2) := fun _ _ _ _ _ _  => by kernel_rfl
def L2 (P : PT) (x2 : Nat) (x5 x6 : Value) (x8 : Int) (H : AHeap) : Prop :=
  ∃ (I : NTy k1 Pr) (μ : NTy k1 (AHeap → Nat)), I x2 x5 x6 x8 H ∧ ∀ y2 y5 y6 y8 G, I y2 y5 y6 y8 G → B6 P (fun z2 z5 z6 z8 G' => I z2 z5 z6 z8 G' ∧ μ z2 z5 z6 z8 G' < μ y2 y5 y6 y8 G) y2 y5 y6 y8 G
theorem l2 (P : PT) : LQ k1 (L2 P) (B6 P) := fun ⟨_,_,_,_,_⟩ _ ⟨I, μ, h0, hI⟩ => ⟨apT _ I, apT _ μ, h0, fun ⟨_,_,_,_,_⟩ _ h => hI _ _ _ _ _  h⟩
abbrev k2 : Sk := [(2,.x),(5,.v),(6,.v)]
noncomputable def o7 := ob Tryz.f101 [.r,.r,.r,.l,.l]
def B7 (P : PT) (x2 : Nat) (x5 x6 : Value) (H : AHeap) : Prop :=
  L2 P x2 x5 x6 0 H
theorem q7 (P : PT) : QB Tryz.prog T0 56 o7 (En 56 k1 (L2 P)) k2 (B7 P) := fun _ _ _ _ _  => by kernel_rfl
abbrev k3 : Sk := [(1,.v),(2,.x),(5,.v),(6,.v),(7,.i .i64)]
noncomputable def o9 := ob Tryz.f101 [.r,.r,.l,.r,.l,.l,.r,.r]
def B9 (P : PT) (N8 : NTy k3 Pr) (x1 : Value) (x2 : Nat) (x5 x6 : Value) (x7 : Int) (H : AHeap) : Prop :=
  N8 x1 x2 x5 x6 (IntKind.i64.wrap (x7 + 1)) H
theorem q9 (P : PT) (N8 : NTy k3 Pr) : QB Tryz.prog T0 56 o9 (En 56 k3 N8) k3 (B9 P N8) := fun _ _ _ _ _ _ _  => by kernel_rfl
noncomputable def o10 := ob Tryz.f101 [.r,.r,.l,.r,.l,.l,.r,.l,.l]
def B10 (P : PT) (N8 : NTy k3 Pr) (x1 : Value) (x2 : Nat) (x5 x6 : Value) (x7 : Int) (H : AHeap) : Prop :=
  idxK x1 x7 1 (fun b1 o2 => ldI .i64 H b1 o2 (fun v3 => idxK x5 v3 1 (fun b4 o5 => stK H b4 o5 [(Value.bool true)] (fun H6 => B9 P N8 x1 x2 x5 x6 x7 H6))))
theorem q10 (P : PT) (N8 : NTy k3 Pr) : QB Tryz.prog T0 56 o10 (En 56 k3 (B9 P N8)) k3 (B10 P N8) := fun _ _ _ _ _ _ _  => by kernel_rfl
noncomputable def o11 := ob Tryz.f101 [.r,.r,.l,.r,.l,.l,.l,.l]
def B11 (P : PT) (N8 : NTy k3 Pr) (x1 : Value) (x2 : Nat) (x5 x6 : Value) (x7 : Int) (H : AHeap) : Prop :=
  lenK x1 (fun n1 => pif (decide ((x7 : Int) < (n1 : Int))) (B10 P N8 x1 x2 x5 x6 x7 H) (B7 P x2 x5 x6 H))
theorem q11 (P : PT) (N8 : NTy k3 Pr) : QB Tryz.prog T0 56 o11 (cnd 16 (En 56 k3 (B10 P N8)) (En 56 k2 (B7 P))) k3 (B11 P N8) := fun _ _ _ _ _ _ _  => by kernel_rfl
def L8 (P : PT) (x1 : Value) (x2 : Nat) (x5 x6 : Value) (x7 : Int) (H : AHeap) : Prop :=
  ∃ (I : NTy k3 Pr) (μ : NTy k3 (AHeap → Nat)), I x1 x2 x5 x6 x7 H ∧ ∀ y1 y2 y5 y6 y7 G, I y1 y2 y5 y6 y7 G → B11 P (fun z1 z2 z5 z6 z7 G' => I z1 z2 z5 z6 z7 G' ∧ μ z1 z2 z5 z6 z7 G' < μ y1 y2 y5 y6 y7 G) y1 y2 y5 y6 y7 G
theorem l8 (P : PT) : LQ k3 (L8 P) (B11 P) := fun ⟨_,_,_,_,_,_⟩ _ ⟨I, μ, h0, hI⟩ => ⟨apT _ I, apT _ μ, h0, fun ⟨_,_,_,_,_,_⟩ _ h => hI _ _ _ _ _ _  h⟩
abbrev k4 : Sk := [(1,.v),(2,.x),(5,.v),(6,.v)]
noncomputable def o12 := ob Tryz.f101 [.r,.r,.l,.l]
def B12 (P : PT) (x1 : Value) (x2 : Nat) (x5 x6 : Value) (H : AHeap) : Prop :=
  L8 P x1 x2 x5 x6 0 H
theorem q12 (P : PT) : QB Tryz.prog T0 56 o12 (En 56 k3 (L8 P)) k4 (B12 P) := fun _ _ _ _ _ _  => by kernel_rfl
abbrev k5 : Sk := [(1,.v),(2,.x)]
noncomputable def o13 := ob Tryz.f101 [.r,.l]
def B13 (P : PT) (x1 : Value) (x2 : Nat) (H : AHeap) : Prop :=
  ldI .i64 H x2 0 (fun v1 => mkR H 1 4 [(Value.bool false)] v1 v1 (fun v3 H2 => newK H2 [] 2 (fun b4 H5 => B12 P x1 x2 v3 (Value.slice (some ⟨b4, 0, none⟩) 0 (0 + 1)) H5)))
theorem q13 (P : PT) : QB Tryz.prog T0 56 o13 (En 56 k4 (B12 P)) k5 (B13 P) := fun _ _ _ _  => by kernel_rfl
abbrev k6 : Sk := [(0,.g [.i,.v]),(1,.v)]
noncomputable def o14 := ob Tryz.f101 [.l]
def B14 (P : PT) (x0a : Int) (x0b x1 : Value) (H : AHeap) : Prop :=
  newK H [(Value.int .i64 x0a), x0b] 26 (fun b1 H2 => B13 P x1 b1 H2)
theorem q14 (P : PT) : QB Tryz.prog T0 56 o14 (En 56 k5 (B13 P)) k6 (B14 P) := fun _ _ _ _ _  => by kernel_rfl
noncomputable def code : Code := (.seq (.region 0 ⟨o14⟩ false) (.seq (.region 1 ⟨o13⟩ false) (.seq (.seq (.region 2 ⟨o12⟩ false) (.block 0 (.loop (.seq (.seq (.region 3 ⟨o11⟩ false) (.cond (.tmp 16) .skip (.exit 0))) (.seq (.block 1 (.region 5 ⟨o10⟩ false)) (.region 4 ⟨o9⟩ false)))))) (.seq (.seq (.region 6 ⟨o7⟩ false) (.block 2 (.loop (.seq (.seq (.region 7 ⟨o6⟩ false) (.cond (.tmp 29) .skip (.exit 2))) (.seq (.block 3 (.seq (.region 9 ⟨o5⟩ true) (.cond (.tmp 50) (.region 10 ⟨o4⟩ false) .skip))) (.region 8 ⟨o3⟩ false)))))) (.seq (.region 11 ⟨o1⟩ false) .ret)))))
theorem body : Tryz.f101.body = some code := by kernel_rfl
theorem main (P : PT) : ∀ env H, (En 56 k6 (B14 P)) env H → AW Tryz.prog T0 code env H (mkQ (ret P) (fun _ _ _ => False) (ret P)) :=
  (r_seq (rB T0_ok (q14 P)) (r_seq (rB T0_ok (q13 P)) (r_seq (r_seq (rB T0_ok (q12 P)) (r_block (rL (l8 P) (fun N8 => (r_seq (r_seq (rB T0_ok (q11 P N8)) (r_cond rfl r_skip (r_exit (fun _ _ h => h)))) (r_seq (r_block (rB T0_ok (q10 P N8))) (rB T0_ok (q9 P N8)))))))) (r_seq (r_seq (rB T0_ok (q7 P)) (r_block (rL (l2 P) (fun N2 => (r_seq (r_seq (rB T0_ok (q6 P N2)) (r_cond rfl r_skip (r_exit (fun _ _ h => h)))) (r_seq (r_block (r_seq (rD T0_ok mixed [(0, false), (1, false), (2, false), (3, false), (4, false), (5, false), (6, false), (7, false), (8, false), (9, false), (10, false), (11, false), (12, false), (13, false), (14, false), (15, false), (16, false), (17, false), (18, false)] (by kernel_rfl) (q5 P N2)) (r_cond rfl (rB T0_ok (q4 P N2)) r_skip))) (rB T0_ok (q3 P N2)))))))) (r_seq (rB T0_ok (q1 P)) r_ret)))))
theorem ac (P : PT) (x0a : Int) (x0b x1 : Value) (H : AHeap) (h : B14 P x0a x0b x1 H) : AC Tryz.prog T0 101 [(Value.agg ⟨[(Value.int .i64 x0a), x0b]⟩), x1] H P :=
  r_fn T0_ok (c := code) (n := 56) Tryz.func101 body (by kernel_rfl) (main P) (En_mk (x0a, x0b, x1, ()) (by kernel_rfl) ⟨by kernel_rfl, by kernel_rfl, trivial⟩ h)

end F101
-- loop.example/g01329/spec.l03With
namespace F102
noncomputable def ret (P : PT) : EP := retE T0 58 Tryz.f102 P
abbrev k0 : Sk := [(2,.x),(4,.v),(5,.x),(6,.v)]
noncomputable def o1 := ob Tryz.f102 [.r,.r,.r,.r,.r,.l]
def B1 (P : PT) (x2 : Nat) (x4 : Value) (x5 : Nat) (x6 : Value) (H : AHeap) : Prop :=
  ldI .i64 H x5 0 (fun v1 => ld1 H x5 1 (fun v2 => AC Tryz.prog T0 68 [x4, (Value.agg ⟨[(Value.int .i64 v1), v2]⟩)] H (fun v3 H4 => agg2 v3 (fun v5 v6 => asI .i64 v5 (fun v7 => stK H4 x2 0 [(Value.int .i64 v7), v6] (fun H9 => ldI .i64 H9 x2 0 (fun v10 => ld1 H9 x2 1 (fun v11 => P (Value.tuple ⟨[(Value.agg ⟨[(Value.int .i64 v10), v11]⟩), x6]⟩) H9))))))))
theorem q1 (P : PT) : QB Tryz.prog T0 58 o1 (ret P) k0 (B1 P) := fun _ _ _ _ _ _  => by kernel_rfl
abbrev k1 : Sk := [(2,.x),(4,.v),(5,.x),(7,.v)]
noncomputable def o2 := ob Tryz.f102 [.r,.r,.r,.r,.l,.r,.l,.r,.r,.r]
def B2 (P : PT) (x2 : Nat) (x4 : Value) (x5 : Nat) (x7 : Value) (H : AHeap) : Prop :=
  ldI .i64 H x5 0 (fun v1 => ld1 H x5 1 (fun v2 => AC Tryz.prog T0 101 [(Value.agg ⟨[(Value.int .i64 v1), v2]⟩), x7] H (fun v3 H4 => B1 P x2 x4 x5 v3 H4)))
theorem q2 (P : PT) : QB Tryz.prog T0 58 o2 (En 58 k0 (B1 P)) k1 (B2 P) := fun _ _ _ _ _ _  => by kernel_rfl
abbrev k2 : Sk := [(2,.x),(4,.v),(5,.x),(7,.v),(8,.v),(9,.i .i64),(10,.i .i64)]
noncomputable def o4 := ob Tryz.f102 [.r,.r,.r,.r,.l,.r,.l,.r,.r,.l,.r,.l,.l,.r,.r]
def B4 (P : PT) (N3 : NTy k2 Pr) (x2 : Nat) (x4 : Value) (x5 : Nat) (x7 x8 : Value) (x9 x10 : Int) (H : AHeap) : Prop :=
  N3 x2 x4 x5 x7 x8 x9 (IntKind.i64.wrap (x10 + 1)) H
theorem q4 (P : PT) (N3 : NTy k2 Pr) : QB Tryz.prog T0 58 o4 (En 58 k2 N3) k2 (B4 P N3) := fun _ _ _ _ _ _ _ _ _  => by kernel_rfl
noncomputable def o5 := ob Tryz.f102 [.r,.r,.r,.r,.l,.r,.l,.r,.r,.l,.r,.l,.l,.r,.l,.l,.r,.l]
def B5 (P : PT) (N3 : NTy k2 Pr) (x2 : Nat) (x4 : Value) (x5 : Nat) (x7 x8 : Value) (x9 x10 : Int) (H : AHeap) : Prop :=
  newK H [(Value.int .i64 x10)] 2 (fun b1 H2 => apK T0 2 H2 x7 (Value.slice (some ⟨b1, 0, none⟩) 1 (1 + 1)) (fun v3 H4 => B4 P N3 x2 x4 x5 v3 x8 x9 x10 H4))
theorem q5 (P : PT) (N3 : NTy k2 Pr) : QB Tryz.prog T0 58 o5 (En 58 k2 (B4 P N3)) k2 (B5 P N3) := fun _ _ _ _ _ _ _ _ _  => by kernel_rfl
noncomputable def o6 := ob Tryz.f102 [.r,.r,.r,.r,.l,.r,.l,.r,.r,.l,.r,.l,.l,.r,.l,.l,.l]
def B6 (P : PT) (N3 : NTy k2 Pr) (x2 : Nat) (x4 : Value) (x5 : Nat) (x7 x8 : Value) (x9 x10 : Int) (H : AHeap) : Prop :=
  idxK x8 x10 1 (fun b1 o2 => ldI .i64 H b1 o2 (fun v3 => AC Tryz.prog T0 85 [(Value.int .i64 v3), (Value.int .i64 0), (Value.int .i64 x9)] H (fun v4 H5 => asB v4 (fun v6 => pif v6 (B5 P N3 x2 x4 x5 x7 x8 x9 x10 H5) (B4 P N3 x2 x4 x5 x7 x8 x9 x10 H5)))))
theorem q6 (P : PT) (N3 : NTy k2 Pr) : QB Tryz.prog T0 58 o6 (cnd 46 (En 58 k2 (B5 P N3)) (En 58 k2 (B4 P N3))) k2 (B6 P N3) := fun _ _ _ _ _ _ _ _ _  => by kernel_rfl
noncomputable def o7 := ob Tryz.f102 [.r,.r,.r,.r,.l,.r,.l,.r,.r,.l,.r,.l,.l,.l,.l]
def B7 (P : PT) (N3 : NTy k2 Pr) (x2 : Nat) (x4 : Value) (x5 : Nat) (x7 x8 : Value) (x9 x10 : Int) (H : AHeap) : Prop :=
  ldI .i64 H x5 0 (fun v1 => pif (decide ((x10 : Int) < v1)) (B6 P N3 x2 x4 x5 x7 x8 x9 x10 H) (B2 P x2 x4 x5 x7 H))
theorem q7 (P : PT) (N3 : NTy k2 Pr) : QB Tryz.prog T0 58 o7 (cnd 38 (En 58 k2 (B6 P N3)) (En 58 k1 (B2 P))) k2 (B7 P N3) := fun _ _ _ _ _ _ _ _ _  => by kernel_rfl
def L3 (P : PT) (x2 : Nat) (x4 : Value) (x5 : Nat) (x7 x8 : Value) (x9 x10 : Int) (H : AHeap) : Prop :=
  ∃ (I : NTy k2 Pr) (μ : NTy k2 (AHeap → Nat)), I x2 x4 x5 x7 x8 x9 x10 H ∧ ∀ y2 y4 y5 y7 y8 y9 y10 G, I y2 y4 y5 y7 y8 y9 y10 G → B7 P (fun z2 z4 z5 z7 z8 z9 z10 G' => I z2 z4 z5 z7 z8 z9 z10 G' ∧ μ z2 z4 z5 z7 z8 z9 z10 G' < μ y2 y4 y5 y7 y8 y9 y10 G) y2 y4 y5 y7 y8 y9 y10 G
theorem l3 (P : PT) : LQ k2 (L3 P) (B7 P) := fun ⟨_,_,_,_,_,_,_,_⟩ _ ⟨I, μ, h0, hI⟩ => ⟨apT _ I, apT _ μ, h0, fun ⟨_,_,_,_,_,_,_,_⟩ _ h => hI _ _ _ _ _ _ _ _  h⟩
abbrev k3 : Sk := [(2,.x),(4,.v),(5,.x),(7,.v),(8,.v),(9,.i .i64)]
noncomputable def o8 := ob Tryz.f102 [.r,.r,.r,.r,.l,.r,.l,.r,.r,.l,.l]
def B8 (P : PT) (x2 : Nat) (x4 : Value) (x5 : Nat) (x7 x8 : Value) (x9 : Int) (H : AHeap) : Prop :=
  L3 P x2 x4 x5 x7 x8 x9 0 H
theorem q8 (P : PT) : QB Tryz.prog T0 58 o8 (En 58 k2 (L3 P)) k3 (B8 P) := fun _ _ _ _ _ _ _ _  => by kernel_rfl
noncomputable def o9 := ob Tryz.f102 [.r,.r,.r,.r,.l,.r,.l,.r,.l]
def B9 (P : PT) (x2 : Nat) (x4 : Value) (x5 : Nat) (x7 : Value) (H : AHeap) : Prop :=
  ldI .i64 H x5 0 (fun v1 => ld1 H x5 1 (fun v2 => ldI .i64 H x5 0 (fun v3 => AC Tryz.prog T0 66 [x4, (Value.int .i64 v3)] H (fun v4 H5 => asI .i64 v4 (fun v6 => (ldI .i64 H5 x5 0 (fun v7 => ld1 H5 x5 1 (fun v8 => ((Value.agg ⟨[(Value.int .i64 v7), v8]⟩) = (Value.agg ⟨[(Value.int .i64 v1), v2]⟩)) ∧ (H5 = H5)))) ∧ (AC Tryz.prog T0 154 [(Value.agg ⟨[(Value.int .i64 v1), v2]⟩), (Value.int .i64 v6), (Value.int .i64 (-1))] H5 (fun v9 H10 => AC Tryz.prog T0 66 [x4, (Value.int .i64 3)] H10 (fun v12 H13 => asI .i64 v12 (fun v14 => B8 P x2 x4 x5 x7 v9 v14 H13)))))))))
theorem q9 (P : PT) : QT Tryz.prog T0 58 o9 (.op 0 [] (.op 1 [] (.op 2 [] (.op 3 [] (.op 6 [] (.op 4 [0] (.op 5 [] (.op 7 [] (.op 8 [] (.op 9 [] .done)))))))))) (En 58 k3 (B8 P)) k1 (B9 P) := fun _ _ _ _ _ _  => by kernel_rfl
abbrev k4 : Sk := [(2,.x),(4,.v),(5,.x)]
noncomputable def o10 := ob Tryz.f102 [.r,.r,.r,.r,.l,.r,.l,.l]
def B10 (P : PT) (x2 : Nat) (x4 : Value) (x5 : Nat) (H : AHeap) : Prop :=
  newK H [] 2 (fun b1 H2 => B9 P x2 x4 x5 (Value.slice (some ⟨b1, 0, none⟩) 0 (0 + 1)) H2)
theorem q10 (P : PT) : QB Tryz.prog T0 58 o10 (En 58 k1 (B9 P)) k4 (B10 P) := fun _ _ _ _ _  => by kernel_rfl
noncomputable def o11 := ob Tryz.f102 [.r,.r,.r,.r,.l,.l]
def B11 (P : PT) (x2 : Nat) (x4 : Value) (x5 : Nat) (x6 : Value) (H : AHeap) : Prop :=
  AC Tryz.prog T0 66 [x4, (Value.int .i64 2)] H (fun v1 H2 => asI .i64 v1 (fun v3 => pif ((v3 : Int) == 0) (B10 P x2 x4 x5 H2) (B1 P x2 x4 x5 x6 H2)))
theorem q11 (P : PT) : QB Tryz.prog T0 58 o11 (cnd 25 (En 58 k4 (B10 P)) (En 58 k0 (B1 P))) k0 (B11 P) := fun _ _ _ _ _ _  => by kernel_rfl
noncomputable def o12 := ob Tryz.f102 [.r,.r,.r,.l]
def B12 (P : PT) (x2 : Nat) (x4 : Value) (x5 : Nat) (H : AHeap) : Prop :=
  ld1 H x5 1 (fun v1 => lenK v1 (fun n2 => newK H [(Value.int .i64 1), (Value.int .i64 3), (Value.int .i64 5)] 2 (fun b3 H4 => AC Tryz.prog T0 83 [x4, (Value.slice (some ⟨b3, 0, none⟩) 3 (3 + 1))] H4 (fun v5 H6 => asI .i64 v5 (fun v7 => (ld1 H6 x5 1 (fun v8 => (v8 = v1) ∧ (H6 = H6))) ∧ (AC Tryz.prog T0 97 [x4, (Value.int .i64 (n2 : Int)), (Value.int .i64 v7)] H6 (fun v9 H10 => B11 P x2 x4 x5 v9 H10)))))))
theorem q12 (P : PT) : QT Tryz.prog T0 58 o12 (.op 0 [] (.op 1 [] (.op 2 [] (.op 3 [] (.op 4 [] (.op 5 [] (.op 6 [2] (.op 7 [] (.op 8 [] .done))))))))) (En 58 k0 (B11 P)) k4 (B12 P) := fun _ _ _ _ _  => by kernel_rfl
abbrev k5 : Sk := [(2,.x),(4,.v)]
noncomputable def o13 := ob Tryz.f102 [.r,.r,.l]
def B13 (P : PT) (x2 : Nat) (x4 : Value) (H : AHeap) : Prop :=
  AC Tryz.prog T0 96 [x4] H (fun v1 H2 => agg2 v1 (fun v3 v4 => asI .i64 v3 (fun v5 => newK H2 [(Value.int .i64 0), (Value.slice none 0 0)] 26 (fun b7 H8 => stK H8 b7 0 [(Value.int .i64 v5), v4] (fun H9 => B12 P x2 x4 b7 H9)))))
theorem q13 (P : PT) : QB Tryz.prog T0 58 o13 (En 58 k4 (B12 P)) k5 (B13 P) := fun _ _ _ _  => by kernel_rfl
abbrev k6 : Sk := [(0,.v),(2,.x)]
noncomputable def o14 := ob Tryz.f102 [.r,.l]
def B14 (P : PT) (x0 : Value) (x2 : Nat) (H : AHeap) : Prop :=
  AC Tryz.prog T0 65 [x0] H (fun v1 H2 => B13 P x2 v1 H2)
theorem q14 (P : PT) : QB Tryz.prog T0 58 o14 (En 58 k5 (B13 P)) k6 (B14 P) := fun _ _ _ _  => by kernel_rfl
abbrev k7 : Sk := [(0,.v)]
noncomputable def o15 := ob Tryz.f102 [.l]
def B15 (P : PT) (x0 : Value) (H : AHeap) : Prop :=
  newK H [(Value.int .i64 0), (Value.slice none 0 0)] 26 (fun b1 H2 => B14 P x0 b1 H2)
theorem q15 (P : PT) : QB Tryz.prog T0 58 o15 (En 58 k6 (B14 P)) k7 (B15 P) := fun _ _ _  => by kernel_rfl
noncomputable def code : Code := (.seq (.region 0 ⟨o15⟩ false) (.seq (.region 1 ⟨o14⟩ false) (.seq (.region 2 ⟨o13⟩ false) (.seq (.region 3 ⟨o12⟩ true) (.seq (.seq (.region 4 ⟨o11⟩ false) (.cond (.tmp 25) (.seq (.region 5 ⟨o10⟩ false) (.seq (.region 6 ⟨o9⟩ true) (.seq (.seq (.region 7 ⟨o8⟩ false) (.block 0 (.loop (.seq (.seq (.region 8 ⟨o7⟩ false) (.cond (.tmp 38) .skip (.exit 0))) (.seq (.block 1 (.seq (.region 10 ⟨o6⟩ false) (.cond (.tmp 46) (.region 11 ⟨o5⟩ false) .skip))) (.region 9 ⟨o4⟩ false)))))) (.region 12 ⟨o2⟩ false)))) .skip)) (.seq (.region 13 ⟨o1⟩ false) .ret))))))
theorem body : Tryz.f102.body = some code := by kernel_rfl
theorem main (P : PT) : ∀ env H, (En 58 k7 (B15 P)) env H → AW Tryz.prog T0 code env H (mkQ (ret P) (fun _ _ _ => False) (ret P)) :=
  (r_seq (rB T0_ok (q15 P)) (r_seq (rB T0_ok (q14 P)) (r_seq (rB T0_ok (q13 P)) (r_seq (rT T0_ok mixed (.op 0 [] (.op 1 [] (.op 2 [] (.op 3 [] (.op 4 [] (.op 5 [] (.op 6 [2] (.op 7 [] (.op 8 [] .done))))))))) (by kernel_rfl) (q12 P)) (r_seq (r_seq (rB T0_ok (q11 P)) (r_cond rfl (r_seq (rB T0_ok (q10 P)) (r_seq (rT T0_ok mixed (.op 0 [] (.op 1 [] (.op 2 [] (.op 3 [] (.op 6 [] (.op 4 [0] (.op 5 [] (.op 7 [] (.op 8 [] (.op 9 [] .done)))))))))) (by kernel_rfl) (q9 P)) (r_seq (r_seq (rB T0_ok (q8 P)) (r_block (rL (l3 P) (fun N3 => (r_seq (r_seq (rB T0_ok (q7 P N3)) (r_cond rfl r_skip (r_exit (fun _ _ h => h)))) (r_seq (r_block (r_seq (rB T0_ok (q6 P N3)) (r_cond rfl (rB T0_ok (q5 P N3)) r_skip))) (rB T0_ok (q4 P N3)))))))) (rB T0_ok (q2 P))))) r_skip)) (r_seq (rB T0_ok (q1 P)) r_ret))))))
theorem ac (P : PT) (x0 : Value) (H : AHeap) (h : B15 P x0 H) : AC Tryz.prog T0 102 [x0] H P :=
  r_fn T0_ok (c := code) (n := 58) Tryz.func102 body (by kernel_rfl) (main P) (En_mk (x0, ()) (by kernel_rfl) ⟨by kernel_rfl, trivial⟩ h)

end F102
-- (loop.example/g01329/impl.Graph).sides
namespace F103
noncomputable def ret (P : PT) : EP := retE T0 46 Tryz.f103 P
abbrev k0 : Sk := [(5,.v)]
noncomputable def o1 := ob Tryz.f103 [.r,.r,.r,.r,.l]
def B1 (P : PT) (x5 : Value) (H : AHeap) : Prop :=
  P x5 H
theorem q1 (P : PT) : QB Tryz.prog T0 46 o1 (ret P) k0 (B1 P) := fun _ _ _  => by kernel_rfl
abbrev k1 : Sk := [(1,.i .u64),(2,.x),(5,.v),(6,.i .u64),(12,.i .i64),(13,.i .i64)]
noncomputable def o3 := ob Tryz.f103 [.r,.r,.r,.l,.r,.l,.l,.r,.r,.r]
def B3 (P : PT) (N2 : NTy k1 Pr) (x1 : Int) (x2 : Nat) (x5 : Value) (x6 x12 x13 : Int) (H : AHeap) : Prop :=
  N2 x1 x2 x5 x6 x12 (IntKind.i64.wrap (x13 + 1)) H
theorem q3 (P : PT) (N2 : NTy k1 Pr) : QB Tryz.prog T0 46 o3 (En 46 k1 N2) k1 (B3 P N2) := fun _ _ _ _ _ _ _ _  => by kernel_rfl
abbrev k2 : Sk := [(1,.i .u64),(2,.x),(5,.v),(6,.i .u64),(8,.v),(12,.i .i64),(13,.i .i64)]
noncomputable def o4 := ob Tryz.f103 [.r,.r,.r,.l,.r,.l,.l,.r,.r,.l,.l,.r,.r,.r,.r]
def B4 (P : PT) (N2 : NTy k1 Pr) (x1 : Int) (x2 : Nat) (x5 : Value) (x6 : Int) (x8 : Value) (x12 x13 : Int) (H : AHeap) : Prop :=
  pif (Value.oneCell' x8) (newK H [x8] 28 (fun b1 H2 => apK T0 28 H2 x5 (Value.slice (some ⟨b1, 0, none⟩) 1 (1 + 1)) (fun v3 H4 => B3 P N2 x1 x2 v3 x6 x12 x13 H4))) False
theorem q4 (P : PT) (N2 : NTy k1 Pr) : QB Tryz.prog T0 46 o4 (En 46 k1 (B3 P N2)) k2 (B4 P N2) := fun _ _ _ _ _ _ _ _ _  => by kernel_rfl
abbrev k3 : Sk := [(1,.i .u64),(2,.x),(5,.v),(6,.i .u64),(8,.v),(12,.i .i64),(13,.i .i64),(22,.v),(23,.i .i64),(24,.i .i64)]
noncomputable def o6 := ob Tryz.f103 [.r,.r,.r,.l,.r,.l,.l,.r,.r,.l,.l,.r,.r,.r,.l,.r,.l,.l,.r,.r,.r]
def B6 (P : PT) (N2 : NTy k1 Pr) (N5 : NTy k3 Pr) (x1 : Int) (x2 : Nat) (x5 : Value) (x6 : Int) (x8 : Value) (x12 x13 : Int) (x22 : Value) (x23 x24 : Int) (H : AHeap) : Prop :=
  N5 x1 x2 x5 x6 x8 x12 x13 x22 x23 (IntKind.i64.wrap (x24 + 1)) H
theorem q6 (P : PT) (N2 : NTy k1 Pr) (N5 : NTy k3 Pr) : QB Tryz.prog T0 46 o6 (En 46 k3 N5) k3 (B6 P N2 N5) := fun _ _ _ _ _ _ _ _ _ _ _ _  => by kernel_rfl
abbrev k4 : Sk := [(1,.i .u64),(2,.x),(5,.v),(6,.i .u64),(8,.v),(9,.i .i64),(12,.i .i64),(13,.i .i64),(22,.v),(23,.i .i64),(24,.i .i64)]
noncomputable def o7 := ob Tryz.f103 [.r,.r,.r,.l,.r,.l,.l,.r,.r,.l,.l,.r,.r,.r,.l,.r,.l,.l,.r,.r,.l,.l,.r,.r,.l,.r]
def B7 (P : PT) (N2 : NTy k1 Pr) (N5 : NTy k3 Pr) (x1 : Int) (x2 : Nat) (x5 : Value) (x6 : Int) (x8 : Value) (x9 x12 x13 : Int) (x22 : Value) (x23 x24 : Int) (H : AHeap) : Prop :=
  ((0 : Int) ≤ x9) ∧ (B6 P N2 N5 x1 x2 x5 (IntKind.u64.wrap (BitVec.ofInt 64 x6 ||| BitVec.ofInt 64 (IntKind.u64.wrap (1 * 2 ^ (min (Int.toNat x9) 64)))).toNat) x8 x12 x13 x22 x23 x24 H)
theorem q7 (P : PT) (N2 : NTy k1 Pr) (N5 : NTy k3 Pr) : QB Tryz.prog T0 46 o7 (En 46 k3 (B6 P N2 N5)) k4 (B7 P N2 N5) := fun _ _ _ _ _ _ _ _ _ _ _ _ _  => by kernel_rfl
noncomputable def o8 := ob Tryz.f103 [.r,.r,.r,.l,.r,.l,.l,.r,.r,.l,.l,.r,.r,.r,.l,.r,.l,.l,.r,.r,.l,.l,.r,.r,.l,.l]
def B8 (P : PT) (N2 : NTy k1 Pr) (N5 : NTy k3 Pr) (x1 : Int) (x2 : Nat) (x5 : Value) (x6 : Int) (x8 : Value) (x9 x12 x13 : Int) (x22 : Value) (x23 x24 : Int) (H : AHeap) : Prop :=
  newK H [(Value.int .i64 x9)] 2 (fun b1 H2 => apK T0 2 H2 x8 (Value.slice (some ⟨b1, 0, none⟩) 1 (1 + 1)) (fun v3 H4 => B7 P N2 N5 x1 x2 x5 x6 v3 x9 x12 x13 x22 x23 x24 H4))
theorem q8 (P : PT) (N2 : NTy k1 Pr) (N5 : NTy k3 Pr) : QB Tryz.prog T0 46 o8 (En 46 k4 (B7 P N2 N5)) k4 (B8 P N2 N5) := fun _ _ _ _ _ _ _ _ _ _ _ _ _  => by kernel_rfl
abbrev k5 : Sk := [(1,.i .u64),(2,.x),(5,.v),(6,.i .u64),(8,.v),(9,.i .i64),(10,.i .i64),(12,.i .i64),(13,.i .i64),(22,.v),(23,.i .i64),(24,.i .i64)]
noncomputable def o9 := ob Tryz.f103 [.r,.r,.r,.l,.r,.l,.l,.r,.r,.l,.l,.r,.r,.r,.l,.r,.l,.l,.r,.r,.l,.l,.r,.l]
def B9 (P : PT) (N2 : NTy k1 Pr) (N5 : NTy k3 Pr) (x1 : Int) (x2 : Nat) (x5 : Value) (x6 : Int) (x8 : Value) (x9 x10 x12 x13 : Int) (x22 : Value) (x23 x24 : Int) (H : AHeap) : Prop :=
  pif (decide ((x10 : Int) ≥ 0)) (B8 P N2 N5 x1 x2 x5 x6 x8 x9 x12 x13 x22 x23 x24 H) (B6 P N2 N5 x1 x2 x5 x6 x8 x12 x13 x22 x23 x24 H)
theorem q9 (P : PT) (N2 : NTy k1 Pr) (N5 : NTy k3 Pr) : QB Tryz.prog T0 46 o9 (cnd 30 (En 46 k4 (B8 P N2 N5)) (En 46 k3 (B6 P N2 N5))) k5 (B9 P N2 N5) := fun _ _ _ _ _ _ _ _ _ _ _ _ _ _  => by kernel_rfl
noncomputable def o10 := ob Tryz.f103 [.r,.r,.r,.l,.r,.l,.l,.r,.r,.l,.l,.r,.r,.r,.l,.r,.l,.l,.r,.r,.l,.l,.l]
def B10 (P : PT) (N2 : NTy k1 Pr) (N5 : NTy k3 Pr) (x1 : Int) (x2 : Nat) (x5 : Value) (x6 : Int) (x8 : Value) (x12 x13 : Int) (x22 : Value) (x23 x24 : Int) (H : AHeap) : Prop :=
  idxK x22 x24 1 (fun b1 o2 => ldI .i64 H b1 o2 (fun v3 => B9 P N2 N5 x1 x2 x5 x6 x8 x24 v3 x12 x13 x22 x23 x24 H))
theorem q10 (P : PT) (N2 : NTy k1 Pr) (N5 : NTy k3 Pr) : QB Tryz.prog T0 46 o10 (En 46 k5 (B9 P N2 N5)) k3 (B10 P N2 N5) := fun _ _ _ _ _ _ _ _ _ _ _ _  => by kernel_rfl
noncomputable def o11 := ob Tryz.f103 [.r,.r,.r,.l,.r,.l,.l,.r,.r,.l,.l,.r,.r,.r,.l,.r,.l,.l,.l]
def B11 (P : PT) (N2 : NTy k1 Pr) (N5 : NTy k3 Pr) (x1 : Int) (x2 : Nat) (x5 : Value) (x6 : Int) (x8 : Value) (x12 x13 : Int) (x22 : Value) (x23 x24 : Int) (H : AHeap) : Prop :=
  pif (decide ((x24 : Int) < x23)) (B10 P N2 N5 x1 x2 x5 x6 x8 x12 x13 x22 x23 x24 H) (B4 P N2 x1 x2 x5 x6 x8 x12 x13 H)
theorem q11 (P : PT) (N2 : NTy k1 Pr) (N5 : NTy k3 Pr) : QB Tryz.prog T0 46 o11 (cnd 25 (En 46 k3 (B10 P N2 N5)) (En 46 k2 (B4 P N2))) k3 (B11 P N2 N5) := fun _ _ _ _ _ _ _ _ _ _ _ _  => by kernel_rfl
def L5 (P : PT) (N2 : NTy k1 Pr) (x1 : Int) (x2 : Nat) (x5 : Value) (x6 : Int) (x8 : Value) (x12 x13 : Int) (x22 : Value) (x23 x24 : Int) (H : AHeap) : Prop :=
  ∃ (I : NTy k3 Pr) (μ : NTy k3 (AHeap → Nat)), I x1 x2 x5 x6 x8 x12 x13 x22 x23 x24 H ∧ ∀ y1 y2 y5 y6 y8 y12 y13 y22 y23 y24 G, I y1 y2 y5 y6 y8 y12 y13 y22 y23 y24 G → B11 P N2 (fun z1 z2 z5 z6 z8 z12 z13 z22 z23 z24 G' => I z1 z2 z5 z6 z8 z12 z13 z22 z23 z24 G' ∧ μ z1 z2 z5 z6 z8 z12 z13 z22 z23 z24 G' < μ y1 y2 y5 y6 y8 y12 y13 y22 y23 y24 G) y1 y2 y5 y6 y8 y12 y13 y22 y23 y24 G
theorem l5 (P : PT) (N2 : NTy k1 Pr) : LQ k3 (L5 P N2) (B11 P N2) := fun ⟨_,_,_,_,_,_,_,_,_,_,_⟩ _ ⟨I, μ, h0, hI⟩ => ⟨apT _ I, apT _ μ, h0, fun ⟨_,_,_,_,_,_,_,_,_,_,_⟩ _ h => hI _ _ _ _ _ _ _ _ _ _ _  h⟩
abbrev k6 : Sk := [(1,.i .u64),(2,.x),(5,.v),(6,.i .u64),(7,.i .i64),(8,.v),(12,.i .i64),(13,.i .i64)]
noncomputable def o12 := ob Tryz.f103 [.r,.r,.r,.l,.r,.l,.l,.r,.r,.l,.l,.r,.r,.r,.l,.l]
def B12 (P : PT) (N2 : NTy k1 Pr) (x1 : Int) (x2 : Nat) (x5 : Value) (x6 x7 : Int) (x8 : Value) (x12 x13 : Int) (H : AHeap) : Prop :=
  ldI .i64 H x2 0 (fun v1 => ld1 H x2 1 (fun v2 => AC Tryz.prog T0 155 [(Value.agg ⟨[(Value.int .i64 v1), v2]⟩), (Value.int .i64 x7), (Value.int .u64 x1)] H (fun v3 H4 => lenK v3 (fun n6 => L5 P N2 x1 x2 x5 x6 x8 x12 x13 v3 (n6 : Int) 0 H4))))
theorem q12 (P : PT) (N2 : NTy k1 Pr) : QB Tryz.prog T0 46 o12 (En 46 k3 (L5 P N2)) k6 (B12 P N2) := fun _ _ _ _ _ _ _ _ _ _  => by kernel_rfl
abbrev k7 : Sk := [(1,.i .u64),(2,.x),(5,.v),(6,.i .u64),(7,.i .i64),(12,.i .i64),(13,.i .i64)]
noncomputable def o13 := ob Tryz.f103 [.r,.r,.r,.l,.r,.l,.l,.r,.r,.l,.l,.r,.r,.l]
def B13 (P : PT) (N2 : NTy k1 Pr) (x1 : Int) (x2 : Nat) (x5 : Value) (x6 x7 x12 x13 : Int) (H : AHeap) : Prop :=
  B12 P N2 x1 x2 x5 x6 x7 (Value.slice none 0 0) x12 x13 H
theorem q13 (P : PT) (N2 : NTy k1 Pr) : QB Tryz.prog T0 46 o13 (En 46 k6 (B12 P N2)) k7 (B13 P N2) := fun _ _ _ _ _ _ _ _ _  => by kernel_rfl
noncomputable def o14 := ob Tryz.f103 [.r,.r,.r,.l,.r,.l,.l,.r,.r,.l,.l,.r,.l,.l]
def B14 (P : PT) (N2 : NTy k1 Pr) (x1 : Int) (x2 : Nat) (x5 : Value) (x6 x7 x12 x13 : Int) (H : AHeap) : Prop :=
  AC Tryz.prog T0 134 [(Value.int .u64 x6), (Value.int .i64 x7)] H (fun v1 H2 => asB v1 (fun v3 => pif v3 (B3 P N2 x1 x2 x5 x6 x12 x13 H2) (B13 P N2 x1 x2 x5 x6 x7 x12 x13 H2)))
theorem q14 (P : PT) (N2 : NTy k1 Pr) : QB Tryz.prog T0 46 o14 (cnd 18 (En 46 k1 (B3 P N2)) (En 46 k7 (B13 P N2))) k7 (B14 P N2) := fun _ _ _ _ _ _ _ _ _  => by kernel_rfl
noncomputable def o15 := ob Tryz.f103 [.r,.r,.r,.l,.r,.l,.l,.r,.r,.l,.l,.l]
def B15 (P : PT) (N2 : NTy k1 Pr) (x1 : Int) (x2 : Nat) (x5 : Value) (x6 x12 x13 : Int) (H : AHeap) : Prop :=
  B14 P N2 x1 x2 x5 x6 x13 x12 x13 H
theorem q15 (P : PT) (N2 : NTy k1 Pr) : QB Tryz.prog T0 46 o15 (En 46 k7 (B14 P N2)) k1 (B15 P N2) := fun _ _ _ _ _ _ _ _  => by kernel_rfl
noncomputable def o16 := ob Tryz.f103 [.r,.r,.r,.l,.r,.l,.l,.l]
def B16 (P : PT) (N2 : NTy k1 Pr) (x1 : Int) (x2 : Nat) (x5 : Value) (x6 x12 x13 : Int) (H : AHeap) : Prop :=
  pif (decide ((x13 : Int) < x12)) (B15 P N2 x1 x2 x5 x6 x12 x13 H) (B1 P x5 H)
theorem q16 (P : PT) (N2 : NTy k1 Pr) : QB Tryz.prog T0 46 o16 (cnd 14 (En 46 k1 (B15 P N2)) (En 46 k0 (B1 P))) k1 (B16 P N2) := fun _ _ _ _ _ _ _ _  => by kernel_rfl
def L2 (P : PT) (x1 : Int) (x2 : Nat) (x5 : Value) (x6 x12 x13 : Int) (H : AHeap) : Prop :=
  ∃ (I : NTy k1 Pr) (μ : NTy k1 (AHeap → Nat)), I x1 x2 x5 x6 x12 x13 H ∧ ∀ y1 y2 y5 y6 y12 y13 G, I y1 y2 y5 y6 y12 y13 G → B16 P (fun z1 z2 z5 z6 z12 z13 G' => I z1 z2 z5 z6 z12 z13 G' ∧ μ z1 z2 z5 z6 z12 z13 G' < μ y1 y2 y5 y6 y12 y13 G) y1 y2 y5 y6 y12 y13 G
theorem l2 (P : PT) : LQ k1 (L2 P) (B16 P) := fun ⟨_,_,_,_,_,_,_⟩ _ ⟨I, μ, h0, hI⟩ => ⟨apT _ I, apT _ μ, h0, fun ⟨_,_,_,_,_,_,_⟩ _ h => hI _ _ _ _ _ _ _  h⟩
abbrev k8 : Sk := [(1,.i .u64),(2,.x),(5,.v),(6,.i .u64)]
noncomputable def o17 := ob Tryz.f103 [.r,.r,.r,.l,.l]
def B17 (P : PT) (x1 : Int) (x2 : Nat) (x5 : Value) (x6 : Int) (H : AHeap) : Prop :=
  ldI .i64 H x2 0 (fun v1 => L2 P x1 x2 x5 x6 v1 0 H)
theorem q17 (P : PT) : QB Tryz.prog T0 46 o17 (En 46 k1 (L2 P)) k8 (B17 P) := fun _ _ _ _ _ _  => by kernel_rfl
abbrev k9 : Sk := [(1,.i .u64),(2,.x),(5,.v)]
noncomputable def o18 := ob Tryz.f103 [.r,.r,.l]
def B18 (P : PT) (x1 : Int) (x2 : Nat) (x5 : Value) (H : AHeap) : Prop :=
  B17 P x1 x2 x5 0 H
theorem q18 (P : PT) : QB Tryz.prog T0 46 o18 (En 46 k8 (B17 P)) k9 (B18 P) := fun _ _ _ _ _  => by kernel_rfl
abbrev k10 : Sk := [(1,.i .u64),(2,.x)]
noncomputable def o19 := ob Tryz.f103 [.r,.l]
def B19 (P : PT) (x1 : Int) (x2 : Nat) (H : AHeap) : Prop :=
  B18 P x1 x2 (Value.slice none 0 0) H
theorem q19 (P : PT) : QB Tryz.prog T0 46 o19 (En 46 k9 (B18 P)) k10 (B19 P) := fun _ _ _ _  => by kernel_rfl
abbrev k11 : Sk := [(0,.g [.i,.v]),(1,.i .u64)]
noncomputable def o20 := ob Tryz.f103 [.l]
def B20 (P : PT) (x0a : Int) (x0b : Value) (x1 : Int) (H : AHeap) : Prop :=
  newK H [(Value.int .i64 x0a), x0b] 26 (fun b1 H2 => B19 P x1 b1 H2)
theorem q20 (P : PT) : QB Tryz.prog T0 46 o20 (En 46 k10 (B19 P)) k11 (B20 P) := fun _ _ _ _ _  => by kernel_rfl
noncomputable def code : Code := (.seq (.region 0 ⟨o20⟩ false) (.seq (.region 1 ⟨o19⟩ false) (.seq (.region 2 ⟨o18⟩ false) (.seq (.seq (.region 3 ⟨o17⟩ false) (.block 0 (.loop (.seq (.region 4 ⟨o16⟩ false) (.seq (.cond (.tmp 14) .skip (.exit 0)) (.seq (.block 1 (.seq (.region 5 ⟨o15⟩ false) (.seq (.seq (.region 6 ⟨o14⟩ false) (.cond (.tmp 18) (.exit 1) .skip)) (.seq (.region 7 ⟨o13⟩ false) (.seq (.seq (.region 8 ⟨o12⟩ false) (.block 2 (.loop (.seq (.region 9 ⟨o11⟩ false) (.seq (.cond (.tmp 25) .skip (.exit 2)) (.seq (.block 3 (.seq (.region 10 ⟨o10⟩ false) (.seq (.region 11 ⟨o9⟩ false) (.cond (.tmp 30) (.seq (.region 12 ⟨o8⟩ false) (.region 13 ⟨o7⟩ false)) .skip)))) (.region 14 ⟨o6⟩ false))))))) (.region 15 ⟨o4⟩ false)))))) (.region 16 ⟨o3⟩ false))))))) (.seq (.region 17 ⟨o1⟩ false) .ret)))))
theorem body : Tryz.f103.body = some code := by kernel_rfl
theorem main (P : PT) : ∀ env H, (En 46 k11 (B20 P)) env H → AW Tryz.prog T0 code env H (mkQ (ret P) (fun _ _ _ => False) (ret P)) :=
  (r_seq (rB T0_ok (q20 P)) (r_seq (rB T0_ok (q19 P)) (r_seq (rB T0_ok (q18 P)) (r_seq (r_seq (rB T0_ok (q17 P)) (r_block (rL (l2 P) (fun N2 => (r_seq (rB T0_ok (q16 P N2)) (r_seq (r_cond rfl r_skip (r_exit (fun _ _ h => h))) (r_seq (r_block (r_seq (rB T0_ok (q15 P N2)) (r_seq (r_seq (rB T0_ok (q14 P N2)) (r_cond rfl (r_exit (fun _ _ h => h)) r_skip)) (r_seq (rB T0_ok (q13 P N2)) (r_seq (r_seq (rB T0_ok (q12 P N2)) (r_block (rL (l5 P N2) (fun N5 => (r_seq (rB T0_ok (q11 P N2 N5)) (r_seq (r_cond rfl r_skip (r_exit (fun _ _ h => h))) (r_seq (r_block (r_seq (rB T0_ok (q10 P N2 N5)) (r_seq (rB T0_ok (q9 P N2 N5)) (r_cond rfl (r_seq (rB T0_ok (q8 P N2 N5)) (rB T0_ok (q7 P N2 N5))) r_skip)))) (rB T0_ok (q6 P N2 N5))))))))) (rB T0_ok (q4 P N2))))))) (rB T0_ok (q3 P N2))))))))) (r_seq (rB T0_ok (q1 P)) r_ret)))))
theorem ac (P : PT) (x0a : Int) (x0b : Value) (x1 : Int) (H : AHeap) (h : B20 P x0a x0b x1 H) : AC Tryz.prog T0 103 [(Value.agg ⟨[(Value.int .i64 x0a), x0b]⟩), (Value.int .u64 x1)] H P :=
  r_fn T0_ok (c := code) (n := 46) Tryz.func103 body (by kernel_rfl) (main P) (En_mk (x0a, x0b, x1, ()) (by kernel_rfl) ⟨by kernel_rfl, by kernel_rfl, trivial⟩ h)

end F103
-- loop.example/g01329/spec.l03Edges
namespace F104
noncomputable def ret (P : PT) : EP := retE T0 13 Tryz.f104 P
abbrev k0 : Sk := [(1,.v),(2,.x)]
noncomputable def o1 := ob Tryz.f104 [.r,.r,.l]
def B1 (P : PT) (x1 : Value) (x2 : Nat) (H : AHeap) : Prop :=
  ld1 H x2 1 (fun v1 => lenK v1 (fun n2 => AC Tryz.prog T0 100 [x1, (Value.int .i64 (n2 : Int))] H (fun v3 H4 => asI .i64 v3 (fun v5 => P (Value.int .i64 v5) H4))))
theorem q1 (P : PT) : QB Tryz.prog T0 13 o1 (ret P) k0 (B1 P) := fun _ _ _ _  => by kernel_rfl
abbrev k1 : Sk := []
noncomputable def o2 := ob Tryz.f104 [.r,.l,.r,.l,.l]
def B2 (P : PT) (H : AHeap) : Prop :=
  P (Value.int .i64 1) H
theorem q2 (P : PT) : QB Tryz.prog T0 13 o2 (ret P) k1 (B2 P) := fun _ _  => by kernel_rfl
noncomputable def o3 := ob Tryz.f104 [.r,.l,.l]
def B3 (P : PT) (x1 : Value) (x2 : Nat) (H : AHeap) : Prop :=
  ldI .i64 H x2 0 (fun v1 => ld1 H x2 1 (fun v2 => AC Tryz.prog T0 75 [(Value.agg ⟨[(Value.int .i64 v1), v2]⟩)] H (fun v3 H4 => asB v3 (fun v5 => pif (!v5) (B2 P H4) (B1 P x1 x2 H4)))))
theorem q3 (P : PT) : QB Tryz.prog T0 13 o3 (cnd 7 (En 13 k1 (B2 P)) (En 13 k0 (B1 P))) k0 (B3 P) := fun _ _ _ _  => by kernel_rfl
abbrev k2 : Sk := [(0,.g [.i,.v]),(1,.v)]
noncomputable def o4 := ob Tryz.f104 [.l]
def B4 (P : PT) (x0a : Int) (x0b x1 : Value) (H : AHeap) : Prop :=
  newK H [(Value.int .i64 x0a), x0b] 26 (fun b1 H2 => B3 P x1 b1 H2)
theorem q4 (P : PT) : QB Tryz.prog T0 13 o4 (En 13 k0 (B3 P)) k2 (B4 P) := fun _ _ _ _ _  => by kernel_rfl
noncomputable def code : Code := (.seq (.region 0 ⟨o4⟩ false) (.seq (.seq (.region 1 ⟨o3⟩ false) (.cond (.tmp 7) (.seq (.region 2 ⟨o2⟩ false) .ret) .skip)) (.seq (.region 3 ⟨o1⟩ false) .ret)))
theorem body : Tryz.f104.body = some code := by kernel_rfl
theorem main (P : PT) : ∀ env H, (En 13 k2 (B4 P)) env H → AW Tryz.prog T0 code env H (mkQ (ret P) (fun _ _ _ => False) (ret P)) :=
  (r_seq (rB T0_ok (q4 P)) (r_seq (r_seq (rB T0_ok (q3 P)) (r_cond rfl (r_seq (rB T0_ok (q2 P)) r_ret) r_skip)) (r_seq (rB T0_ok (q1 P)) r_ret)))
theorem ac (P : PT) (x0a : Int) (x0b x1 : Value) (H : AHeap) (h : B4 P x0a x0b x1 H) : AC Tryz.prog T0 104 [(Value.agg ⟨[(Value.int .i64 x0a), x0b]⟩), x1] H P :=
  r_fn T0_ok (c := code) (n := 13) Tryz.func104 body (by kernel_rfl) (main P) (En_mk (x0a, x0b, x1, ()) (by kernel_rfl) ⟨by kernel_rfl, by kernel_rfl, trivial⟩ h)

end F104
-- loop.example/g01329/spec.l01Leaders
namespace F105
noncomputable def ret (P : PT) : EP := retE T0 68 Tryz.f105 P
abbrev k0 : Sk := [(5,.v)]
noncomputable def o1 := ob Tryz.f105 [.r,.r,.r,.r,.l]
def B1 (P : PT) (x5 : Value) (H : AHeap) : Prop :=
  P x5 H
theorem q1 (P : PT) : QB Tryz.prog T0 68 o1 (ret P) k0 (B1 P) := fun _ _ _  => by kernel_rfl
abbrev k1 : Sk := [(1,.v),(5,.v),(7,.b)]
abbrev k2 : Sk := [(1,.v),(5,.v),(7,.b),(8,.i .i64)]
noncomputable def o4 := ob Tryz.f105 [.r,.r,.r,.l,.r,.l,.l,.r,.l,.r,.r,.l,.l,.r,.r]
def B4 (P : PT) (N2 : NTy k1 Pr) (N3 : NTy k2 Pr) (x1 x5 : Value) (x7 : Bool) (x8 : Int) (H : AHeap) : Prop :=
  N3 x1 x5 x7 (IntKind.i64.wrap (x8 + 1)) H
theorem q4 (P : PT) (N2 : NTy k1 Pr) (N3 : NTy k2 Pr) : QB Tryz.prog T0 68 o4 (En 68 k2 N3) k2 (B4 P N2 N3) := fun _ _ _ _ _ _  => by kernel_rfl
abbrev k3 : Sk := [(1,.v),(5,.v),(8,.i .i64)]
noncomputable def o5 := ob Tryz.f105 [.r,.r,.r,.l,.r,.l,.l,.r,.l,.r,.r,.l,.l,.r,.l,.l,.r,.r,.l,.r,.r]
def B5 (P : PT) (N2 : NTy k1 Pr) (N3 : NTy k2 Pr) (x1 x5 : Value) (x8 : Int) (H : AHeap) : Prop :=
  B4 P N2 N3 x1 x5 true x8 H
theorem q5 (P : PT) (N2 : NTy k1 Pr) (N3 : NTy k2 Pr) : QB Tryz.prog T0 68 o5 (En 68 k2 (B4 P N2 N3)) k3 (B5 P N2 N3) := fun _ _ _ _ _  => by kernel_rfl
abbrev k4 : Sk := [(1,.v),(5,.v),(8,.i .i64),(9,.i .i64),(10,.i .i64)]
noncomputable def o6 := ob Tryz.f105 [.r,.r,.r,.l,.r,.l,.l,.r,.l,.r,.r,.l,.l,.r,.l,.l,.r,.r,.l,.r,.l]
def B6 (P : PT) (N2 : NTy k1 Pr) (N3 : NTy k2 Pr) (x1 x5 : Value) (x8 x9 x10 : Int) (H : AHeap) : Prop :=
  idxK x1 x8 2 (fun b1 o2 => ldI .i64 H b1 (o2 + 1) (fun v3 => idxK x5 v3 1 (fun b4 o5 => stK H b4 o5 [(Value.int .i64 (if x10 < x9 then x10 else x9))] (fun H6 => B5 P N2 N3 x1 x5 x8 H6))))
theorem q6 (P : PT) (N2 : NTy k1 Pr) (N3 : NTy k2 Pr) : QB Tryz.prog T0 68 o6 (En 68 k3 (B5 P N2 N3)) k4 (B6 P N2 N3) := fun _ _ _ _ _ _ _  => by kernel_rfl
noncomputable def o7 := ob Tryz.f105 [.r,.r,.r,.l,.r,.l,.l,.r,.l,.r,.r,.l,.l,.r,.l,.l,.r,.r,.l,.l]
def B7 (P : PT) (N2 : NTy k1 Pr) (N3 : NTy k2 Pr) (x1 x5 : Value) (x8 x9 x10 : Int) (H : AHeap) : Prop :=
  idxK x1 x8 2 (fun b1 o2 => ldI .i64 H b1 o2 (fun v3 => idxK x5 v3 1 (fun b4 o5 => stK H b4 o5 [(Value.int .i64 (if x10 < x9 then x10 else x9))] (fun H6 => B6 P N2 N3 x1 x5 x8 x9 x10 H6))))
theorem q7 (P : PT) (N2 : NTy k1 Pr) (N3 : NTy k2 Pr) : QB Tryz.prog T0 68 o7 (En 68 k4 (B6 P N2 N3)) k4 (B7 P N2 N3) := fun _ _ _ _ _ _ _  => by kernel_rfl
abbrev k5 : Sk := [(1,.v),(5,.v),(7,.b),(8,.i .i64),(9,.i .i64),(10,.i .i64)]
noncomputable def o8 := ob Tryz.f105 [.r,.r,.r,.l,.r,.l,.l,.r,.l,.r,.r,.l,.l,.r,.l,.l,.r,.l]
def B8 (P : PT) (N2 : NTy k1 Pr) (N3 : NTy k2 Pr) (x1 x5 : Value) (x7 : Bool) (x8 x9 x10 : Int) (H : AHeap) : Prop :=
  pif ((x9 : Int) != x10) (B7 P N2 N3 x1 x5 x8 x9 x10 H) (B4 P N2 N3 x1 x5 x7 x8 H)
theorem q8 (P : PT) (N2 : NTy k1 Pr) (N3 : NTy k2 Pr) : QB Tryz.prog T0 68 o8 (cnd 46 (En 68 k4 (B7 P N2 N3)) (En 68 k2 (B4 P N2 N3))) k5 (B8 P N2 N3) := fun _ _ _ _ _ _ _ _  => by kernel_rfl
noncomputable def o9 := ob Tryz.f105 [.r,.r,.r,.l,.r,.l,.l,.r,.l,.r,.r,.l,.l,.r,.l,.l,.l]
def B9 (P : PT) (N2 : NTy k1 Pr) (N3 : NTy k2 Pr) (x1 x5 : Value) (x7 : Bool) (x8 : Int) (H : AHeap) : Prop :=
  idxK x1 x8 2 (fun b1 o2 => ldI .i64 H b1 o2 (fun v3 => idxK x5 v3 1 (fun b4 o5 => ldI .i64 H b4 o5 (fun v6 => idxK x1 x8 2 (fun b7 o8 => ldI .i64 H b7 (o8 + 1) (fun v9 => idxK x5 v9 1 (fun b10 o11 => ldI .i64 H b10 o11 (fun v12 => B8 P N2 N3 x1 x5 x7 x8 v6 v12 H))))))))
theorem q9 (P : PT) (N2 : NTy k1 Pr) (N3 : NTy k2 Pr) : QD Tryz.prog T0 68 o9 [(0, false), (1, false), (2, false), (3, false), (4, false), (5, false), (6, false), (7, false), (8, false), (9, false), (10, false), (11, false), (12, false), (13, false), (14, false), (15, false), (16, false), (17, false)] (En 68 k5 (B8 P N2 N3)) k2 (B9 P N2 N3) := fun _ _ _ _ _ _  => by kernel_rfl
noncomputable def o10 := ob Tryz.f105 [.r,.r,.r,.l,.r,.l,.l,.r,.l,.r,.r,.l,.l,.l,.l]
def B10 (P : PT) (N2 : NTy k1 Pr) (N3 : NTy k2 Pr) (x1 x5 : Value) (x7 : Bool) (x8 : Int) (H : AHeap) : Prop :=
  lenK x1 (fun n1 => pif (decide ((x8 : Int) < (n1 : Int))) (B9 P N2 N3 x1 x5 x7 x8 H) (N2 x1 x5 x7 H))
theorem q10 (P : PT) (N2 : NTy k1 Pr) (N3 : NTy k2 Pr) : QB Tryz.prog T0 68 o10 (cnd 25 (En 68 k2 (B9 P N2 N3)) (En 68 k1 N2)) k2 (B10 P N2 N3) := fun _ _ _ _ _ _  => by kernel_rfl
def L3 (P : PT) (N2 : NTy k1 Pr) (x1 x5 : Value) (x7 : Bool) (x8 : Int) (H : AHeap) : Prop :=
  ∃ (I : NTy k2 Pr) (μ : NTy k2 (AHeap → Nat)), I x1 x5 x7 x8 H ∧ ∀ y1 y5 y7 y8 G, I y1 y5 y7 y8 G → B10 P N2 (fun z1 z5 z7 z8 G' => I z1 z5 z7 z8 G' ∧ μ z1 z5 z7 z8 G' < μ y1 y5 y7 y8 G) y1 y5 y7 y8 G
theorem l3 (P : PT) (N2 : NTy k1 Pr) : LQ k2 (L3 P N2) (B10 P N2) := fun ⟨_,_,_,_,_⟩ _ ⟨I, μ, h0, hI⟩ => ⟨apT _ I, apT _ μ, h0, fun ⟨_,_,_,_,_⟩ _ h => hI _ _ _ _ _  h⟩
noncomputable def o11 := ob Tryz.f105 [.r,.r,.r,.l,.r,.l,.l,.r,.l,.r,.l]
def B11 (P : PT) (N2 : NTy k1 Pr) (x1 x5 : Value) (x7 : Bool) (H : AHeap) : Prop :=
  L3 P N2 x1 x5 x7 0 H
theorem q11 (P : PT) (N2 : NTy k1 Pr) : QB Tryz.prog T0 68 o11 (En 68 k2 (L3 P N2)) k1 (B11 P N2) := fun _ _ _ _ _  => by kernel_rfl
abbrev k6 : Sk := [(1,.v),(5,.v)]
noncomputable def o12 := ob Tryz.f105 [.r,.r,.r,.l,.r,.l,.l,.r,.l,.l]
def B12 (P : PT) (N2 : NTy k1 Pr) (x1 x5 : Value) (H : AHeap) : Prop :=
  B11 P N2 x1 x5 false H
theorem q12 (P : PT) (N2 : NTy k1 Pr) : QB Tryz.prog T0 68 o12 (En 68 k1 (B11 P N2)) k6 (B12 P N2) := fun _ _ _ _  => by kernel_rfl
noncomputable def o13 := ob Tryz.f105 [.r,.r,.r,.l,.r,.l,.l,.l,.l]
def B13 (P : PT) (N2 : NTy k1 Pr) (x1 x5 : Value) (x7 : Bool) (H : AHeap) : Prop :=
  pif x7 (B12 P N2 x1 x5 H) (B1 P x5 H)
theorem q13 (P : PT) (N2 : NTy k1 Pr) : QB Tryz.prog T0 68 o13 (cnd 21 (En 68 k6 (B12 P N2)) (En 68 k0 (B1 P))) k1 (B13 P N2) := fun _ _ _ _ _  => by kernel_rfl
def L2 (P : PT) (x1 x5 : Value) (x7 : Bool) (H : AHeap) : Prop :=
  ∃ (I : NTy k1 Pr) (μ : NTy k1 (AHeap → Nat)), I x1 x5 x7 H ∧ ∀ y1 y5 y7 G, I y1 y5 y7 G → B13 P (fun z1 z5 z7 G' => I z1 z5 z7 G' ∧ μ z1 z5 z7 G' < μ y1 y5 y7 G) y1 y5 y7 G
theorem l2 (P : PT) : LQ k1 (L2 P) (B13 P) := fun ⟨_,_,_,_⟩ _ ⟨I, μ, h0, hI⟩ => ⟨apT _ I, apT _ μ, h0, fun ⟨_,_,_,_⟩ _ h => hI _ _ _ _  h⟩
noncomputable def o14 := ob Tryz.f105 [.r,.r,.r,.l,.l]
def B14 (P : PT) (x1 x5 : Value) (H : AHeap) : Prop :=
  L2 P x1 x5 true H
theorem q14 (P : PT) : QB Tryz.prog T0 68 o14 (En 68 k1 (L2 P)) k6 (B14 P) := fun _ _ _ _  => by kernel_rfl
abbrev k7 : Sk := [(0,.i .i64),(1,.v),(5,.v),(6,.i .i64)]
noncomputable def o16 := ob Tryz.f105 [.r,.r,.l,.r,.l,.l,.r,.r]
def B16 (P : PT) (N15 : NTy k7 Pr) (x0 : Int) (x1 x5 : Value) (x6 : Int) (H : AHeap) : Prop :=
  N15 x0 x1 x5 (IntKind.i64.wrap (x6 + 1)) H
theorem q16 (P : PT) (N15 : NTy k7 Pr) : QB Tryz.prog T0 68 o16 (En 68 k7 N15) k7 (B16 P N15) := fun _ _ _ _ _ _  => by kernel_rfl
noncomputable def o17 := ob Tryz.f105 [.r,.r,.l,.r,.l,.l,.r,.l,.l]
def B17 (P : PT) (N15 : NTy k7 Pr) (x0 : Int) (x1 x5 : Value) (x6 : Int) (H : AHeap) : Prop :=
  newK H [(Value.int .i64 x6)] 2 (fun b1 H2 => apK T0 2 H2 x5 (Value.slice (some ⟨b1, 0, none⟩) 1 (1 + 1)) (fun v3 H4 => B16 P N15 x0 x1 v3 x6 H4))
theorem q17 (P : PT) (N15 : NTy k7 Pr) : QB Tryz.prog T0 68 o17 (En 68 k7 (B16 P N15)) k7 (B17 P N15) := fun _ _ _ _ _ _  => by kernel_rfl
noncomputable def o18 := ob Tryz.f105 [.r,.r,.l,.r,.l,.l,.l,.l]
def B18 (P : PT) (N15 : NTy k7 Pr) (x0 : Int) (x1 x5 : Value) (x6 : Int) (H : AHeap) : Prop :=
  pif (decide ((x6 : Int) < x0)) (B17 P N15 x0 x1 x5 x6 H) (B14 P x1 x5 H)
theorem q18 (P : PT) (N15 : NTy k7 Pr) : QB Tryz.prog T0 68 o18 (cnd 14 (En 68 k7 (B17 P N15)) (En 68 k6 (B14 P))) k7 (B18 P N15) := fun _ _ _ _ _ _  => by kernel_rfl
def L15 (P : PT) (x0 : Int) (x1 x5 : Value) (x6 : Int) (H : AHeap) : Prop :=
  ∃ (I : NTy k7 Pr) (μ : NTy k7 (AHeap → Nat)), I x0 x1 x5 x6 H ∧ ∀ y0 y1 y5 y6 G, I y0 y1 y5 y6 G → B18 P (fun z0 z1 z5 z6 G' => I z0 z1 z5 z6 G' ∧ μ z0 z1 z5 z6 G' < μ y0 y1 y5 y6 G) y0 y1 y5 y6 G
theorem l15 (P : PT) : LQ k7 (L15 P) (B18 P) := fun ⟨_,_,_,_,_⟩ _ ⟨I, μ, h0, hI⟩ => ⟨apT _ I, apT _ μ, h0, fun ⟨_,_,_,_,_⟩ _ h => hI _ _ _ _ _  h⟩
abbrev k8 : Sk := [(0,.i .i64),(1,.v),(5,.v)]
noncomputable def o19 := ob Tryz.f105 [.r,.r,.l,.l]
def B19 (P : PT) (x0 : Int) (x1 x5 : Value) (H : AHeap) : Prop :=
  L15 P x0 x1 x5 0 H
theorem q19 (P : PT) : QB Tryz.prog T0 68 o19 (En 68 k7 (L15 P)) k8 (B19 P) := fun _ _ _ _ _  => by kernel_rfl
abbrev k9 : Sk := [(0,.i .i64),(1,.v)]
noncomputable def o20 := ob Tryz.f105 [.r,.l]
def B20 (P : PT) (x0 : Int) (x1 : Value) (H : AHeap) : Prop :=
  newK H [] 2 (fun b1 H2 => B19 P x0 x1 (Value.slice (some ⟨b1, 0, none⟩) 0 (0 + 1)) H2)
theorem q20 (P : PT) : QB Tryz.prog T0 68 o20 (En 68 k8 (B19 P)) k9 (B20 P) := fun _ _ _ _  => by kernel_rfl
noncomputable def o21 := ob Tryz.f105 [.l]
def B21 (P : PT) (x0 : Int) (x1 : Value) (H : AHeap) : Prop :=
  B20 P x0 x1 H
theorem q21 (P : PT) : QB Tryz.prog T0 68 o21 (En 68 k9 (B20 P)) k9 (B21 P) := fun _ _ _ _  => by kernel_rfl
noncomputable def code : Code := (.seq (.region 0 ⟨o21⟩ false) (.seq (.region 1 ⟨o20⟩ false) (.seq (.seq (.region 2 ⟨o19⟩ false) (.block 0 (.loop (.seq (.seq (.region 3 ⟨o18⟩ false) (.cond (.tmp 14) .skip (.exit 0))) (.seq (.block 1 (.region 5 ⟨o17⟩ false)) (.region 4 ⟨o16⟩ false)))))) (.seq (.seq (.region 6 ⟨o14⟩ false) (.block 2 (.loop (.seq (.seq (.region 7 ⟨o13⟩ false) (.cond (.tmp 21) .skip (.exit 2))) (.block 3 (.seq (.region 8 ⟨o12⟩ false) (.seq (.region 9 ⟨o11⟩ false) (.block 4 (.loop (.seq (.seq (.region 10 ⟨o10⟩ false) (.cond (.tmp 25) .skip (.exit 4))) (.seq (.block 5 (.seq (.region 12 ⟨o9⟩ true) (.seq (.region 13 ⟨o8⟩ false) (.cond (.tmp 46) (.seq (.region 14 ⟨o7⟩ false) (.seq (.region 15 ⟨o6⟩ false) (.region 16 ⟨o5⟩ false))) .skip)))) (.region 11 ⟨o4⟩ false)))))))))))) (.seq (.region 17 ⟨o1⟩ false) .ret)))))
theorem body : Tryz.f105.body = some code := by kernel_rfl
theorem main (P : PT) : ∀ env H, (En 68 k9 (B21 P)) env H → AW Tryz.prog T0 code env H (mkQ (ret P) (fun _ _ _ => False) (ret P)) :=
  (r_seq (rB T0_ok (q21 P)) (r_seq (rB T0_ok (q20 P)) (r_seq (r_seq (rB T0_ok (q19 P)) (r_block (rL (l15 P) (fun N15 => (r_seq (r_seq (rB T0_ok (q18 P N15)) (r_cond rfl r_skip (r_exit (fun _ _ h => h)))) (r_seq (r_block (rB T0_ok (q17 P N15))) (rB T0_ok (q16 P N15)))))))) (r_seq (r_seq (rB T0_ok (q14 P)) (r_block (rL (l2 P) (fun N2 => (r_seq (r_seq (rB T0_ok (q13 P N2)) (r_cond rfl r_skip (r_exit (fun _ _ h => h)))) (r_block (r_seq (rB T0_ok (q12 P N2)) (r_seq (rB T0_ok (q11 P N2)) (r_block (rL (l3 P N2) (fun N3 => (r_seq (r_seq (rB T0_ok (q10 P N2 N3)) (r_cond rfl r_skip (r_exit (fun _ _ h => h)))) (r_seq (r_block (r_seq (rD T0_ok mixed [(0, false), (1, false), (2, false), (3, false), (4, false), (5, false), (6, false), (7, false), (8, false), (9, false), (10, false), (11, false), (12, false), (13, false), (14, false), (15, false), (16, false), (17, false)] (by kernel_rfl) (q9 P N2 N3)) (r_seq (rB T0_ok (q8 P N2 N3)) (r_cond rfl (r_seq (rB T0_ok (q7 P N2 N3)) (r_seq (rB T0_ok (q6 P N2 N3)) (rB T0_ok (q5 P N2 N3)))) r_skip)))) (rB T0_ok (q4 P N2 N3))))))))))))))) (r_seq (rB T0_ok (q1 P)) r_ret)))))
theorem ac (P : PT) (x0 : Int) (x1 : Value) (H : AHeap) (h : B21 P x0 x1 H) : AC Tryz.prog T0 105 [(Value.int .i64 x0), x1] H P :=
  r_fn T0_ok (c := code) (n := 68) Tryz.func105 body (by kernel_rfl) (main P) (En_mk (x0, x1, ()) (by kernel_rfl) ⟨by kernel_rfl, by kernel_rfl, trivial⟩ h)

end F105
-- (loop.example/g01329/impl.Graph).sidesWithCycle
namespace F106
noncomputable def ret (P : PT) : EP := retE T0 62 Tryz.f106 P
abbrev k0 : Sk := [(6,.v),(7,.i .i64)]
noncomputable def o1 := ob Tryz.f106 [.r,.r,.r,.r,.l]
def B1 (P : PT) (x6 : Value) (x7 : Int) (H : AHeap) : Prop :=
  AC Tryz.prog T0 156 [x6] H (fun v1 H2 => asI .i64 v1 (fun v3 => P (Value.tuple ⟨[(Value.int .i64 v3), (Value.int .i64 x7)]⟩) H2))
theorem q1 (P : PT) : QB Tryz.prog T0 62 o1 (ret P) k0 (B1 P) := fun _ _ _ _  => by kernel_rfl
abbrev k1 : Sk := [(1,.i .u64),(2,.x),(6,.v),(7,.i .i64),(17,.v),(18,.i .i64),(19,.i .i64)]
noncomputable def o3 := ob Tryz.f106 [.r,.r,.r,.l,.r,.l,.l,.r,.r,.r]
def B3 (P : PT) (N2 : NTy k1 Pr) (x1 : Int) (x2 : Nat) (x6 : Value) (x7 : Int) (x17 : Value) (x18 x19 : Int) (H : AHeap) : Prop :=
  N2 x1 x2 x6 x7 x17 x18 (IntKind.i64.wrap (x19 + 1)) H
theorem q3 (P : PT) (N2 : NTy k1 Pr) : QB Tryz.prog T0 62 o3 (En 62 k1 N2) k1 (B3 P N2) := fun _ _ _ _ _ _ _ _ _  => by kernel_rfl
noncomputable def o4 := ob Tryz.f106 [.r,.r,.r,.l,.r,.l,.l,.r,.r,.l,.l,.r,.r,.r,.r,.l]
def B4 (P : PT) (N2 : NTy k1 Pr) (x1 : Int) (x2 : Nat) (x6 : Value) (x7 : Int) (x17 : Value) (x18 x19 : Int) (H : AHeap) : Prop :=
  B3 P N2 x1 x2 x6 (IntKind.i64.wrap (x7 + 1)) x17 x18 x19 H
theorem q4 (P : PT) (N2 : NTy k1 Pr) : QB Tryz.prog T0 62 o4 (En 62 k1 (B3 P N2)) k1 (B4 P N2) := fun _ _ _ _ _ _ _ _ _  => by kernel_rfl
abbrev k2 : Sk := [(1,.i .u64),(2,.x),(6,.v),(7,.i .i64),(9,.v),(11,.i .i64),(17,.v),(18,.i .i64),(19,.i .i64)]
noncomputable def o5 := ob Tryz.f106 [.r,.r,.r,.l,.r,.l,.l,.r,.r,.l,.l,.r,.r,.r,.l]
def B5 (P : PT) (N2 : NTy k1 Pr) (x1 : Int) (x2 : Nat) (x6 : Value) (x7 : Int) (x9 : Value) (x11 : Int) (x17 : Value) (x18 x19 : Int) (H : AHeap) : Prop :=
  lenK x9 (fun n1 => pif (decide ((x11 : Int) ≥ (n1 : Int))) (B4 P N2 x1 x2 x6 x7 x17 x18 x19 H) (B3 P N2 x1 x2 x6 x7 x17 x18 x19 H))
theorem q5 (P : PT) (N2 : NTy k1 Pr) : QB Tryz.prog T0 62 o5 (cnd 55 (En 62 k1 (B4 P N2)) (En 62 k1 (B3 P N2))) k2 (B5 P N2) := fun _ _ _ _ _ _ _ _ _ _ _  => by kernel_rfl
abbrev k3 : Sk := [(1,.i .u64),(2,.x),(6,.v),(7,.i .i64),(9,.v),(10,.i .u64),(11,.i .i64),(17,.v),(18,.i .i64),(19,.i .i64),(26,.v),(27,.i .i64),(28,.i .i64)]
noncomputable def o7 := ob Tryz.f106 [.r,.r,.r,.l,.r,.l,.l,.r,.r,.l,.l,.r,.r,.l,.r,.l,.l,.r,.r,.r]
def B7 (P : PT) (N2 : NTy k1 Pr) (N6 : NTy k3 Pr) (x1 : Int) (x2 : Nat) (x6 : Value) (x7 : Int) (x9 : Value) (x10 x11 : Int) (x17 : Value) (x18 x19 : Int) (x26 : Value) (x27 x28 : Int) (H : AHeap) : Prop :=
  N6 x1 x2 x6 x7 x9 x10 x11 x17 x18 x19 x26 x27 (IntKind.i64.wrap (x28 + 1)) H
theorem q7 (P : PT) (N2 : NTy k1 Pr) (N6 : NTy k3 Pr) : QB Tryz.prog T0 62 o7 (En 62 k3 N6) k3 (B7 P N2 N6) := fun _ _ _ _ _ _ _ _ _ _ _ _ _ _ _  => by kernel_rfl
noncomputable def o8 := ob Tryz.f106 [.r,.r,.r,.l,.r,.l,.l,.r,.r,.l,.l,.r,.r,.l,.r,.l,.l,.r,.r,.l,.l,.r,.r,.l]
def B8 (P : PT) (N2 : NTy k1 Pr) (N6 : NTy k3 Pr) (x1 : Int) (x2 : Nat) (x6 : Value) (x7 : Int) (x9 : Value) (x10 x11 : Int) (x17 : Value) (x18 x19 : Int) (x26 : Value) (x27 x28 : Int) (H : AHeap) : Prop :=
  B7 P N2 N6 x1 x2 x6 x7 x9 x10 (IntKind.i64.wrap (x11 + 1)) x17 x18 x19 x26 x27 x28 H
theorem q8 (P : PT) (N2 : NTy k1 Pr) (N6 : NTy k3 Pr) : QB Tryz.prog T0 62 o8 (En 62 k3 (B7 P N2 N6)) k3 (B8 P N2 N6) := fun _ _ _ _ _ _ _ _ _ _ _ _ _ _ _  => by kernel_rfl
abbrev k4 : Sk := [(1,.i .u64),(2,.x),(6,.v),(7,.i .i64),(9,.v),(10,.i .u64),(11,.i .i64),(12,.i .i64),(13,.x),(17,.v),(18,.i .i64),(19,.i .i64),(26,.v),(27,.i .i64),(28,.i .i64)]
noncomputable def o9 := ob Tryz.f106 [.r,.r,.r,.l,.r,.l,.l,.r,.r,.l,.l,.r,.r,.l,.r,.l,.l,.r,.r,.l,.l,.r,.l]
def B9 (P : PT) (N2 : NTy k1 Pr) (N6 : NTy k3 Pr) (x1 : Int) (x2 : Nat) (x6 : Value) (x7 : Int) (x9 : Value) (x10 x11 x12 : Int) (x13 : Nat) (x17 : Value) (x18 x19 : Int) (x26 : Value) (x27 x28 : Int) (H : AHeap) : Prop :=
  ldI .i64 H x13 0 (fun v1 => AC Tryz.prog T0 134 [(Value.int .u64 x10), (Value.int .i64 v1)] H (fun v2 H3 => asB v2 (fun v4 => pif v4 (ldI .i64 H3 x13 1 (fun v5 => AC Tryz.prog T0 134 [(Value.int .u64 x10), (Value.int .i64 v5)] H3 (fun v6 H7 => asB v6 (fun v8 => pif v8 (AC Tryz.prog T0 134 [(Value.int .u64 x1), (Value.int .i64 x12)] H7 (fun v9 H10 => asB v9 (fun v11 => pif (!v11) (B8 P N2 N6 x1 x2 x6 x7 x9 x10 x11 x17 x18 x19 x26 x27 x28 H10) (B7 P N2 N6 x1 x2 x6 x7 x9 x10 x11 x17 x18 x19 x26 x27 x28 H10)))) (B7 P N2 N6 x1 x2 x6 x7 x9 x10 x11 x17 x18 x19 x26 x27 x28 H7))))) (B7 P N2 N6 x1 x2 x6 x7 x9 x10 x11 x17 x18 x19 x26 x27 x28 H3))))
theorem q9 (P : PT) (N2 : NTy k1 Pr) (N6 : NTy k3 Pr) : QB Tryz.prog T0 62 o9 (cnd 48 (En 62 k3 (B8 P N2 N6)) (En 62 k3 (B7 P N2 N6))) k4 (B9 P N2 N6) := fun _ _ _ _ _ _ _ _ _ _ _ _ _ _ _ _ _  => by kernel_rfl
noncomputable def o10 := ob Tryz.f106 [.r,.r,.r,.l,.r,.l,.l,.r,.r,.l,.l,.r,.r,.l,.r,.l,.l,.r,.r,.l,.l,.l]
def B10 (P : PT) (N2 : NTy k1 Pr) (N6 : NTy k3 Pr) (x1 : Int) (x2 : Nat) (x6 : Value) (x7 : Int) (x9 : Value) (x10 x11 : Int) (x17 : Value) (x18 x19 : Int) (x26 : Value) (x27 x28 : Int) (H : AHeap) : Prop :=
  idxK x26 x28 2 (fun b1 o2 => ldI .i64 H b1 o2 (fun v3 => ldI .i64 H b1 (o2 + 1) (fun v4 => newK H [(Value.int .i64 0), (Value.int .i64 0)] 78 (fun b5 H6 => stK H6 b5 0 [(Value.int .i64 v3), (Value.int .i64 v4)] (fun H7 => B9 P N2 N6 x1 x2 x6 x7 x9 x10 x11 x28 b5 x17 x18 x19 x26 x27 x28 H7)))))
theorem q10 (P : PT) (N2 : NTy k1 Pr) (N6 : NTy k3 Pr) : QB Tryz.prog T0 62 o10 (En 62 k4 (B9 P N2 N6)) k3 (B10 P N2 N6) := fun _ _ _ _ _ _ _ _ _ _ _ _ _ _ _  => by kernel_rfl
noncomputable def o11 := ob Tryz.f106 [.r,.r,.r,.l,.r,.l,.l,.r,.r,.l,.l,.r,.r,.l,.r,.l,.l,.l]
def B11 (P : PT) (N2 : NTy k1 Pr) (N6 : NTy k3 Pr) (x1 : Int) (x2 : Nat) (x6 : Value) (x7 : Int) (x9 : Value) (x10 x11 : Int) (x17 : Value) (x18 x19 : Int) (x26 : Value) (x27 x28 : Int) (H : AHeap) : Prop :=
  pif (decide ((x28 : Int) < x27)) (B10 P N2 N6 x1 x2 x6 x7 x9 x10 x11 x17 x18 x19 x26 x27 x28 H) (B5 P N2 x1 x2 x6 x7 x9 x11 x17 x18 x19 H)
theorem q11 (P : PT) (N2 : NTy k1 Pr) (N6 : NTy k3 Pr) : QB Tryz.prog T0 62 o11 (cnd 29 (En 62 k3 (B10 P N2 N6)) (En 62 k2 (B5 P N2))) k3 (B11 P N2 N6) := fun _ _ _ _ _ _ _ _ _ _ _ _ _ _ _  => by kernel_rfl
def L6 (P : PT) (N2 : NTy k1 Pr) (x1 : Int) (x2 : Nat) (x6 : Value) (x7 : Int) (x9 : Value) (x10 x11 : Int) (x17 : Value) (x18 x19 : Int) (x26 : Value) (x27 x28 : Int) (H : AHeap) : Prop :=
  ∃ (I : NTy k3 Pr) (μ : NTy k3 (AHeap → Nat)), I x1 x2 x6 x7 x9 x10 x11 x17 x18 x19 x26 x27 x28 H ∧ ∀ y1 y2 y6 y7 y9 y10 y11 y17 y18 y19 y26 y27 y28 G, I y1 y2 y6 y7 y9 y10 y11 y17 y18 y19 y26 y27 y28 G → B11 P N2 (fun z1 z2 z6 z7 z9 z10 z11 z17 z18 z19 z26 z27 z28 G' => I z1 z2 z6 z7 z9 z10 z11 z17 z18 z19 z26 z27 z28 G' ∧ μ z1 z2 z6 z7 z9 z10 z11 z17 z18 z19 z26 z27 z28 G' < μ y1 y2 y6 y7 y9 y10 y11 y17 y18 y19 y26 y27 y28 G) y1 y2 y6 y7 y9 y10 y11 y17 y18 y19 y26 y27 y28 G
theorem l6 (P : PT) (N2 : NTy k1 Pr) : LQ k3 (L6 P N2) (B11 P N2) := fun ⟨_,_,_,_,_,_,_,_,_,_,_,_,_,_⟩ _ ⟨I, μ, h0, hI⟩ => ⟨apT _ I, apT _ μ, h0, fun ⟨_,_,_,_,_,_,_,_,_,_,_,_,_,_⟩ _ h => hI _ _ _ _ _ _ _ _ _ _ _ _ _ _  h⟩
abbrev k5 : Sk := [(1,.i .u64),(2,.x),(6,.v),(7,.i .i64),(9,.v),(10,.i .u64),(11,.i .i64),(17,.v),(18,.i .i64),(19,.i .i64)]
noncomputable def o12 := ob Tryz.f106 [.r,.r,.r,.l,.r,.l,.l,.r,.r,.l,.l,.r,.r,.l,.l]
def B12 (P : PT) (N2 : NTy k1 Pr) (x1 : Int) (x2 : Nat) (x6 : Value) (x7 : Int) (x9 : Value) (x10 x11 : Int) (x17 : Value) (x18 x19 : Int) (H : AHeap) : Prop :=
  ld1 H x2 1 (fun v1 => lenK v1 (fun n2 => L6 P N2 x1 x2 x6 x7 x9 x10 x11 x17 x18 x19 v1 (n2 : Int) 0 H))
theorem q12 (P : PT) (N2 : NTy k1 Pr) : QB Tryz.prog T0 62 o12 (En 62 k3 (L6 P N2)) k5 (B12 P N2) := fun _ _ _ _ _ _ _ _ _ _ _ _  => by kernel_rfl
abbrev k6 : Sk := [(1,.i .u64),(2,.x),(6,.v),(7,.i .i64),(9,.v),(17,.v),(18,.i .i64),(19,.i .i64)]
noncomputable def o13 := ob Tryz.f106 [.r,.r,.r,.l,.r,.l,.l,.r,.r,.l,.l,.r,.l]
def B13 (P : PT) (N2 : NTy k1 Pr) (x1 : Int) (x2 : Nat) (x6 : Value) (x7 : Int) (x9 x17 : Value) (x18 x19 : Int) (H : AHeap) : Prop :=
  AC Tryz.prog T0 89 [x9] H (fun v1 H2 => asI .u64 v1 (fun v3 => B12 P N2 x1 x2 x6 x7 x9 v3 0 x17 x18 x19 H2))
theorem q13 (P : PT) (N2 : NTy k1 Pr) : QB Tryz.prog T0 62 o13 (En 62 k5 (B12 P N2)) k6 (B13 P N2) := fun _ _ _ _ _ _ _ _ _ _  => by kernel_rfl
noncomputable def o14 := ob Tryz.f106 [.r,.r,.r,.l,.r,.l,.l,.r,.r,.l,.l,.l]
def B14 (P : PT) (N2 : NTy k1 Pr) (x1 : Int) (x2 : Nat) (x6 : Value) (x7 : Int) (x17 : Value) (x18 x19 : Int) (H : AHeap) : Prop :=
  idxK x17 x19 1 (fun b1 o2 => ld1 H b1 o2 (fun v3 => B13 P N2 x1 x2 x6 x7 v3 x17 x18 x19 H))
theorem q14 (P : PT) (N2 : NTy k1 Pr) : QB Tryz.prog T0 62 o14 (En 62 k6 (B13 P N2)) k1 (B14 P N2) := fun _ _ _ _ _ _ _ _ _  => by kernel_rfl
noncomputable def o15 := ob Tryz.f106 [.r,.r,.r,.l,.r,.l,.l,.l]
def B15 (P : PT) (N2 : NTy k1 Pr) (x1 : Int) (x2 : Nat) (x6 : Value) (x7 : Int) (x17 : Value) (x18 x19 : Int) (H : AHeap) : Prop :=
  pif (decide ((x19 : Int) < x18)) (B14 P N2 x1 x2 x6 x7 x17 x18 x19 H) (B1 P x6 x7 H)
theorem q15 (P : PT) (N2 : NTy k1 Pr) : QB Tryz.prog T0 62 o15 (cnd 20 (En 62 k1 (B14 P N2)) (En 62 k0 (B1 P))) k1 (B15 P N2) := fun _ _ _ _ _ _ _ _ _  => by kernel_rfl
def L2 (P : PT) (x1 : Int) (x2 : Nat) (x6 : Value) (x7 : Int) (x17 : Value) (x18 x19 : Int) (H : AHeap) : Prop :=
  ∃ (I : NTy k1 Pr) (μ : NTy k1 (AHeap → Nat)), I x1 x2 x6 x7 x17 x18 x19 H ∧ ∀ y1 y2 y6 y7 y17 y18 y19 G, I y1 y2 y6 y7 y17 y18 y19 G → B15 P (fun z1 z2 z6 z7 z17 z18 z19 G' => I z1 z2 z6 z7 z17 z18 z19 G' ∧ μ z1 z2 z6 z7 z17 z18 z19 G' < μ y1 y2 y6 y7 y17 y18 y19 G) y1 y2 y6 y7 y17 y18 y19 G
theorem l2 (P : PT) : LQ k1 (L2 P) (B15 P) := fun ⟨_,_,_,_,_,_,_,_⟩ _ ⟨I, μ, h0, hI⟩ => ⟨apT _ I, apT _ μ, h0, fun ⟨_,_,_,_,_,_,_,_⟩ _ h => hI _ _ _ _ _ _ _ _  h⟩
abbrev k7 : Sk := [(1,.i .u64),(2,.x),(6,.v),(7,.i .i64)]
noncomputable def o16 := ob Tryz.f106 [.r,.r,.r,.l,.l]
def B16 (P : PT) (x1 : Int) (x2 : Nat) (x6 : Value) (x7 : Int) (H : AHeap) : Prop :=
  lenK x6 (fun n1 => L2 P x1 x2 x6 x7 x6 (n1 : Int) 0 H)
theorem q16 (P : PT) : QB Tryz.prog T0 62 o16 (En 62 k1 (L2 P)) k7 (B16 P) := fun _ _ _ _ _ _  => by kernel_rfl
abbrev k8 : Sk := [(1,.i .u64),(2,.x),(6,.v)]
noncomputable def o17 := ob Tryz.f106 [.r,.r,.l]
def B17 (P : PT) (x1 : Int) (x2 : Nat) (x6 : Value) (H : AHeap) : Prop :=
  B16 P x1 x2 x6 0 H
theorem q17 (P : PT) : QB Tryz.prog T0 62 o17 (En 62 k7 (B16 P)) k8 (B17 P) := fun _ _ _ _ _  => by kernel_rfl
abbrev k9 : Sk := [(1,.i .u64),(2,.x)]
noncomputable def o18 := ob Tryz.f106 [.r,.l]
def B18 (P : PT) (x1 : Int) (x2 : Nat) (H : AHeap) : Prop :=
  ldI .i64 H x2 0 (fun v1 => ld1 H x2 1 (fun v2 => AC Tryz.prog T0 103 [(Value.agg ⟨[(Value.int .i64 v1), v2]⟩), (Value.int .u64 x1)] H (fun v3 H4 => B17 P x1 x2 v3 H4)))
theorem q18 (P : PT) : QB Tryz.prog T0 62 o18 (En 62 k8 (B17 P)) k9 (B18 P) := fun _ _ _ _  => by kernel_rfl
abbrev k10 : Sk := [(0,.g [.i,.v]),(1,.i .u64)]
noncomputable def o19 := ob Tryz.f106 [.l]
def B19 (P : PT) (x0a : Int) (x0b : Value) (x1 : Int) (H : AHeap) : Prop :=
  newK H [(Value.int .i64 x0a), x0b] 26 (fun b1 H2 => B18 P x1 b1 H2)
theorem q19 (P : PT) : QB Tryz.prog T0 62 o19 (En 62 k9 (B18 P)) k10 (B19 P) := fun _ _ _ _ _  => by kernel_rfl
noncomputable def code : Code := (.seq (.region 0 ⟨o19⟩ false) (.seq (.region 1 ⟨o18⟩ false) (.seq (.region 2 ⟨o17⟩ false) (.seq (.seq (.region 3 ⟨o16⟩ false) (.block 0 (.loop (.seq (.region 4 ⟨o15⟩ false) (.seq (.cond (.tmp 20) .skip (.exit 0)) (.seq (.block 1 (.seq (.region 5 ⟨o14⟩ false) (.seq (.region 6 ⟨o13⟩ false) (.seq (.seq (.region 7 ⟨o12⟩ false) (.block 2 (.loop (.seq (.region 8 ⟨o11⟩ false) (.seq (.cond (.tmp 29) .skip (.exit 2)) (.seq (.block 3 (.seq (.region 9 ⟨o10⟩ false) (.seq (.region 10 ⟨o9⟩ false) (.cond (.tmp 48) (.region 11 ⟨o8⟩ false) .skip)))) (.region 12 ⟨o7⟩ false))))))) (.seq (.region 13 ⟨o5⟩ false) (.cond (.tmp 55) (.region 14 ⟨o4⟩ false) .skip)))))) (.region 15 ⟨o3⟩ false))))))) (.seq (.region 16 ⟨o1⟩ false) .ret)))))
theorem body : Tryz.f106.body = some code := by kernel_rfl
theorem main (P : PT) : ∀ env H, (En 62 k10 (B19 P)) env H → AW Tryz.prog T0 code env H (mkQ (ret P) (fun _ _ _ => False) (ret P)) :=
  (r_seq (rB T0_ok (q19 P)) (r_seq (rB T0_ok (q18 P)) (r_seq (rB T0_ok (q17 P)) (r_seq (r_seq (rB T0_ok (q16 P)) (r_block (rL (l2 P) (fun N2 => (r_seq (rB T0_ok (q15 P N2)) (r_seq (r_cond rfl r_skip (r_exit (fun _ _ h => h))) (r_seq (r_block (r_seq (rB T0_ok (q14 P N2)) (r_seq (rB T0_ok (q13 P N2)) (r_seq (r_seq (rB T0_ok (q12 P N2)) (r_block (rL (l6 P N2) (fun N6 => (r_seq (rB T0_ok (q11 P N2 N6)) (r_seq (r_cond rfl r_skip (r_exit (fun _ _ h => h))) (r_seq (r_block (r_seq (rB T0_ok (q10 P N2 N6)) (r_seq (rB T0_ok (q9 P N2 N6)) (r_cond rfl (rB T0_ok (q8 P N2 N6)) r_skip)))) (rB T0_ok (q7 P N2 N6))))))))) (r_seq (rB T0_ok (q5 P N2)) (r_cond rfl (rB T0_ok (q4 P N2)) r_skip)))))) (rB T0_ok (q3 P N2))))))))) (r_seq (rB T0_ok (q1 P)) r_ret)))))
theorem ac (P : PT) (x0a : Int) (x0b : Value) (x1 : Int) (H : AHeap) (h : B19 P x0a x0b x1 H) : AC Tryz.prog T0 106 [(Value.agg ⟨[(Value.int .i64 x0a), x0b]⟩), (Value.int .u64 x1)] H P :=
  r_fn T0_ok (c := code) (n := 62) Tryz.func106 body (by kernel_rfl) (main P) (En_mk (x0a, x0b, x1, ()) (by kernel_rfl) ⟨by kernel_rfl, by kernel_rfl, trivial⟩ h)

end F106
-- loop.example/g01329/spec.l03Cycles
namespace F107
noncomputable def ret (P : PT) : EP := retE T0 89 Tryz.f107 P
abbrev k0 : Sk := [(12,.i .i64),(13,.i .i64)]
noncomputable def o1 := ob Tryz.f107 [.r,.r,.r,.r,.r,.r,.r,.r,.l]
def B1 (P : PT) (x12 x13 : Int) (H : AHeap) : Prop :=
  P (Value.tuple ⟨[(Value.int .i64 x12), (Value.int .i64 x13)]⟩) H
theorem q1 (P : PT) : QB Tryz.prog T0 89 o1 (ret P) k0 (B1 P) := fun _ _ _ _  => by kernel_rfl
abbrev k1 : Sk := [(2,.x),(7,.v),(8,.v),(9,.v),(12,.i .i64),(13,.i .i64),(14,.i .i64)]
noncomputable def o3 := ob Tryz.f107 [.r,.r,.r,.r,.r,.r,.r,.l,.r,.l,.l,.r,.r]
def B3 (P : PT) (N2 : NTy k1 Pr) (x2 : Nat) (x7 x8 x9 : Value) (x12 x13 x14 : Int) (H : AHeap) : Prop :=
  N2 x2 x7 x8 x9 x12 x13 (IntKind.i64.wrap (x14 + 1)) H
theorem q3 (P : PT) (N2 : NTy k1 Pr) : QB Tryz.prog T0 89 o3 (En 89 k1 N2) k1 (B3 P N2) := fun _ _ _ _ _ _ _ _ _  => by kernel_rfl
noncomputable def o4 := ob Tryz.f107 [.r,.r,.r,.r,.r,.r,.r,.l,.r,.l,.l,.r,.l,.l,.r,.r,.r,.l]
def B4 (P : PT) (N2 : NTy k1 Pr) (x2 : Nat) (x7 x8 x9 : Value) (x12 x13 x14 : Int) (H : AHeap) : Prop :=
  B3 P N2 x2 x7 x8 x9 x12 (IntKind.i64.wrap (x13 + 1)) x14 H
theorem q4 (P : PT) (N2 : NTy k1 Pr) : QB Tryz.prog T0 89 o4 (En 89 k1 (B3 P N2)) k1 (B4 P N2) := fun _ _ _ _ _ _ _ _ _  => by kernel_rfl
noncomputable def o5 := ob Tryz.f107 [.r,.r,.r,.r,.r,.r,.r,.l,.r,.l,.l,.r,.l,.l,.r,.r,.l]
def B5 (P : PT) (N2 : NTy k1 Pr) (x2 : Nat) (x7 x8 x9 : Value) (x12 x13 x14 : Int) (H : AHeap) : Prop :=
  idxK x9 x14 1 (fun b1 o2 => ldI .i64 H b1 o2 (fun v3 => idxK x8 x14 1 (fun b4 o5 => ldI .i64 H b4 o5 (fun v6 => pif (decide ((v3 : Int) ≥ v6)) (B4 P N2 x2 x7 x8 x9 x12 x13 x14 H) (B3 P N2 x2 x7 x8 x9 x12 x13 x14 H)))))
theorem q5 (P : PT) (N2 : NTy k1 Pr) : QD Tryz.prog T0 89 o5 [(0, false), (1, false), (2, false), (3, false), (4, false), (5, false), (6, false), (7, false), (8, false)] (cnd 84 (En 89 k1 (B4 P N2)) (En 89 k1 (B3 P N2))) k1 (B5 P N2) := fun _ _ _ _ _ _ _ _ _  => by kernel_rfl
noncomputable def o6 := ob Tryz.f107 [.r,.r,.r,.r,.r,.r,.r,.l,.r,.l,.l,.r,.l,.l,.r,.l]
def B6 (P : PT) (N2 : NTy k1 Pr) (x2 : Nat) (x7 x8 x9 : Value) (x12 x13 x14 : Int) (H : AHeap) : Prop :=
  B5 P N2 x2 x7 x8 x9 (IntKind.i64.wrap (x12 + 1)) x13 x14 H
theorem q6 (P : PT) (N2 : NTy k1 Pr) : QB Tryz.prog T0 89 o6 (En 89 k1 (B5 P N2)) k1 (B6 P N2) := fun _ _ _ _ _ _ _ _ _  => by kernel_rfl
noncomputable def o7 := ob Tryz.f107 [.r,.r,.r,.r,.r,.r,.r,.l,.r,.l,.l,.r,.l,.l,.l,.l]
def B7 (P : PT) (N2 : NTy k1 Pr) (x2 : Nat) (x7 x8 x9 : Value) (x12 x13 x14 : Int) (H : AHeap) : Prop :=
  idxK x7 x14 1 (fun b1 o2 => ldI .i64 H b1 o2 (fun v3 => pif ((v3 : Int) != x14) (B3 P N2 x2 x7 x8 x9 x12 x13 x14 H) (B6 P N2 x2 x7 x8 x9 x12 x13 x14 H)))
theorem q7 (P : PT) (N2 : NTy k1 Pr) : QB Tryz.prog T0 89 o7 (cnd 73 (En 89 k1 (B3 P N2)) (En 89 k1 (B6 P N2))) k1 (B7 P N2) := fun _ _ _ _ _ _ _ _ _  => by kernel_rfl
noncomputable def o8 := ob Tryz.f107 [.r,.r,.r,.r,.r,.r,.r,.l,.r,.l,.l,.l,.l]
def B8 (P : PT) (N2 : NTy k1 Pr) (x2 : Nat) (x7 x8 x9 : Value) (x12 x13 x14 : Int) (H : AHeap) : Prop :=
  ldI .i64 H x2 0 (fun v1 => pif (decide ((x14 : Int) < v1)) (B7 P N2 x2 x7 x8 x9 x12 x13 x14 H) (B1 P x12 x13 H))
theorem q8 (P : PT) (N2 : NTy k1 Pr) : QB Tryz.prog T0 89 o8 (cnd 65 (En 89 k1 (B7 P N2)) (En 89 k0 (B1 P))) k1 (B8 P N2) := fun _ _ _ _ _ _ _ _ _  => by kernel_rfl
def L2 (P : PT) (x2 : Nat) (x7 x8 x9 : Value) (x12 x13 x14 : Int) (H : AHeap) : Prop :=
  ∃ (I : NTy k1 Pr) (μ : NTy k1 (AHeap → Nat)), I x2 x7 x8 x9 x12 x13 x14 H ∧ ∀ y2 y7 y8 y9 y12 y13 y14 G, I y2 y7 y8 y9 y12 y13 y14 G → B8 P (fun z2 z7 z8 z9 z12 z13 z14 G' => I z2 z7 z8 z9 z12 z13 z14 G' ∧ μ z2 z7 z8 z9 z12 z13 z14 G' < μ y2 y7 y8 y9 y12 y13 y14 G) y2 y7 y8 y9 y12 y13 y14 G
theorem l2 (P : PT) : LQ k1 (L2 P) (B8 P) := fun ⟨_,_,_,_,_,_,_,_⟩ _ ⟨I, μ, h0, hI⟩ => ⟨apT _ I, apT _ μ, h0, fun ⟨_,_,_,_,_,_,_,_⟩ _ h => hI _ _ _ _ _ _ _ _  h⟩
abbrev k2 : Sk := [(2,.x),(7,.v),(8,.v),(9,.v),(12,.i .i64),(13,.i .i64)]
noncomputable def o9 := ob Tryz.f107 [.r,.r,.r,.r,.r,.r,.r,.l,.l]
def B9 (P : PT) (x2 : Nat) (x7 x8 x9 : Value) (x12 x13 : Int) (H : AHeap) : Prop :=
  L2 P x2 x7 x8 x9 x12 x13 0 H
theorem q9 (P : PT) : QB Tryz.prog T0 89 o9 (En 89 k1 (L2 P)) k2 (B9 P) := fun _ _ _ _ _ _ _ _  => by kernel_rfl
abbrev k3 : Sk := [(2,.x),(7,.v),(8,.v),(9,.v)]
noncomputable def o10 := ob Tryz.f107 [.r,.r,.r,.r,.r,.r,.l]
def B10 (P : PT) (x2 : Nat) (x7 x8 x9 : Value) (H : AHeap) : Prop :=
  B9 P x2 x7 x8 x9 0 0 H
theorem q10 (P : PT) : QB Tryz.prog T0 89 o10 (En 89 k2 (B9 P)) k3 (B10 P) := fun _ _ _ _ _ _  => by kernel_rfl
abbrev k4 : Sk := [(2,.x),(6,.v),(7,.v),(8,.v),(9,.v),(11,.i .i64)]
noncomputable def o12 := ob Tryz.f107 [.r,.r,.r,.r,.r,.l,.r,.l,.l,.r,.r]
def B12 (P : PT) (N11 : NTy k4 Pr) (x2 : Nat) (x6 x7 x8 x9 : Value) (x11 : Int) (H : AHeap) : Prop :=
  N11 x2 x6 x7 x8 x9 (IntKind.i64.wrap (x11 + 1)) H
theorem q12 (P : PT) (N11 : NTy k4 Pr) : QB Tryz.prog T0 89 o12 (En 89 k4 N11) k4 (B12 P N11) := fun _ _ _ _ _ _ _ _  => by kernel_rfl
noncomputable def o13 := ob Tryz.f107 [.r,.r,.r,.r,.r,.l,.r,.l,.l,.r,.l,.l]
def B13 (P : PT) (N11 : NTy k4 Pr) (x2 : Nat) (x6 x7 x8 x9 : Value) (x11 : Int) (H : AHeap) : Prop :=
  idxK x6 x11 2 (fun b1 o2 => ldI .i64 H b1 o2 (fun v3 => idxK x7 v3 1 (fun b4 o5 => ldI .i64 H b4 o5 (fun v6 => idxK x9 v6 1 (fun b7 o8 => ldI .i64 H b7 o8 (fun v9 => idxK x9 v6 1 (fun b10 o11 => stK H b10 o11 [(Value.int .i64 (IntKind.i64.wrap (v9 + 1)))] (fun H12 => B12 P N11 x2 x6 x7 x8 x9 x11 H12))))))))
theorem q13 (P : PT) (N11 : NTy k4 Pr) : QB Tryz.prog T0 89 o13 (En 89 k4 (B12 P N11)) k4 (B13 P N11) := fun _ _ _ _ _ _ _ _  => by kernel_rfl
noncomputable def o14 := ob Tryz.f107 [.r,.r,.r,.r,.r,.l,.r,.l,.l,.l,.l]
def B14 (P : PT) (N11 : NTy k4 Pr) (x2 : Nat) (x6 x7 x8 x9 : Value) (x11 : Int) (H : AHeap) : Prop :=
  lenK x6 (fun n1 => pif (decide ((x11 : Int) < (n1 : Int))) (B13 P N11 x2 x6 x7 x8 x9 x11 H) (B10 P x2 x7 x8 x9 H))
theorem q14 (P : PT) (N11 : NTy k4 Pr) : QB Tryz.prog T0 89 o14 (cnd 46 (En 89 k4 (B13 P N11)) (En 89 k3 (B10 P))) k4 (B14 P N11) := fun _ _ _ _ _ _ _ _  => by kernel_rfl
def L11 (P : PT) (x2 : Nat) (x6 x7 x8 x9 : Value) (x11 : Int) (H : AHeap) : Prop :=
  ∃ (I : NTy k4 Pr) (μ : NTy k4 (AHeap → Nat)), I x2 x6 x7 x8 x9 x11 H ∧ ∀ y2 y6 y7 y8 y9 y11 G, I y2 y6 y7 y8 y9 y11 G → B14 P (fun z2 z6 z7 z8 z9 z11 G' => I z2 z6 z7 z8 z9 z11 G' ∧ μ z2 z6 z7 z8 z9 z11 G' < μ y2 y6 y7 y8 y9 y11 G) y2 y6 y7 y8 y9 y11 G
theorem l11 (P : PT) : LQ k4 (L11 P) (B14 P) := fun ⟨_,_,_,_,_,_,_⟩ _ ⟨I, μ, h0, hI⟩ => ⟨apT _ I, apT _ μ, h0, fun ⟨_,_,_,_,_,_,_⟩ _ h => hI _ _ _ _ _ _ _  h⟩
abbrev k5 : Sk := [(2,.x),(6,.v),(7,.v),(8,.v),(9,.v)]
noncomputable def o15 := ob Tryz.f107 [.r,.r,.r,.r,.r,.l,.l]
def B15 (P : PT) (x2 : Nat) (x6 x7 x8 x9 : Value) (H : AHeap) : Prop :=
  L11 P x2 x6 x7 x8 x9 0 H
theorem q15 (P : PT) : QB Tryz.prog T0 89 o15 (En 89 k4 (L11 P)) k5 (B15 P) := fun _ _ _ _ _ _ _  => by kernel_rfl
abbrev k6 : Sk := [(2,.x),(6,.v),(7,.v),(8,.v),(9,.v),(10,.i .i64)]
noncomputable def o17 := ob Tryz.f107 [.r,.r,.r,.r,.l,.r,.l,.l,.r,.r]
def B17 (P : PT) (N16 : NTy k6 Pr) (x2 : Nat) (x6 x7 x8 x9 : Value) (x10 : Int) (H : AHeap) : Prop :=
  N16 x2 x6 x7 x8 x9 (IntKind.i64.wrap (x10 + 1)) H
theorem q17 (P : PT) (N16 : NTy k6 Pr) : QB Tryz.prog T0 89 o17 (En 89 k6 N16) k6 (B17 P N16) := fun _ _ _ _ _ _ _ _  => by kernel_rfl
noncomputable def o18 := ob Tryz.f107 [.r,.r,.r,.r,.l,.r,.l,.l,.r,.l,.l]
def B18 (P : PT) (N16 : NTy k6 Pr) (x2 : Nat) (x6 x7 x8 x9 : Value) (x10 : Int) (H : AHeap) : Prop :=
  idxK x7 x10 1 (fun b1 o2 => ldI .i64 H b1 o2 (fun v3 => idxK x8 v3 1 (fun b4 o5 => ldI .i64 H b4 o5 (fun v6 => idxK x8 v3 1 (fun b7 o8 => stK H b7 o8 [(Value.int .i64 (IntKind.i64.wrap (v6 + 1)))] (fun H9 => B17 P N16 x2 x6 x7 x8 x9 x10 H9))))))
theorem q18 (P : PT) (N16 : NTy k6 Pr) : QB Tryz.prog T0 89 o18 (En 89 k6 (B17 P N16)) k6 (B18 P N16) := fun _ _ _ _ _ _ _ _  => by kernel_rfl
noncomputable def o19 := ob Tryz.f107 [.r,.r,.r,.r,.l,.r,.l,.l,.l,.l]
def B19 (P : PT) (N16 : NTy k6 Pr) (x2 : Nat) (x6 x7 x8 x9 : Value) (x10 : Int) (H : AHeap) : Prop :=
  ldI .i64 H x2 0 (fun v1 => pif (decide ((x10 : Int) < v1)) (B18 P N16 x2 x6 x7 x8 x9 x10 H) (B15 P x2 x6 x7 x8 x9 H))
theorem q19 (P : PT) (N16 : NTy k6 Pr) : QB Tryz.prog T0 89 o19 (cnd 31 (En 89 k6 (B18 P N16)) (En 89 k5 (B15 P))) k6 (B19 P N16) := fun _ _ _ _ _ _ _ _  => by kernel_rfl
def L16 (P : PT) (x2 : Nat) (x6 x7 x8 x9 : Value) (x10 : Int) (H : AHeap) : Prop :=
  ∃ (I : NTy k6 Pr) (μ : NTy k6 (AHeap → Nat)), I x2 x6 x7 x8 x9 x10 H ∧ ∀ y2 y6 y7 y8 y9 y10 G, I y2 y6 y7 y8 y9 y10 G → B19 P (fun z2 z6 z7 z8 z9 z10 G' => I z2 z6 z7 z8 z9 z10 G' ∧ μ z2 z6 z7 z8 z9 z10 G' < μ y2 y6 y7 y8 y9 y10 G) y2 y6 y7 y8 y9 y10 G
theorem l16 (P : PT) : LQ k6 (L16 P) (B19 P) := fun ⟨_,_,_,_,_,_,_⟩ _ ⟨I, μ, h0, hI⟩ => ⟨apT _ I, apT _ μ, h0, fun ⟨_,_,_,_,_,_,_⟩ _ h => hI _ _ _ _ _ _ _  h⟩
noncomputable def o20 := ob Tryz.f107 [.r,.r,.r,.r,.l,.l]
def B20 (P : PT) (x2 : Nat) (x6 x7 x8 x9 : Value) (H : AHeap) : Prop :=
  L16 P x2 x6 x7 x8 x9 0 H
theorem q20 (P : PT) : QB Tryz.prog T0 89 o20 (En 89 k6 (L16 P)) k5 (B20 P) := fun _ _ _ _ _ _ _  => by kernel_rfl
abbrev k7 : Sk := [(2,.x),(6,.v),(7,.v)]
noncomputable def o21 := ob Tryz.f107 [.r,.r,.r,.l]
def B21 (P : PT) (x2 : Nat) (x6 x7 : Value) (H : AHeap) : Prop :=
  ldI .i64 H x2 0 (fun v1 => ldI .i64 H x2 0 (fun v2 => (mkR H 8 2 [(Value.int .i64 0)] v1 v1 (fun v4 H3 => mkR H3 8 2 [(Value.int .i64 0)] v2 v2 (fun v6 H5 => B20 P x2 x6 x7 v4 v6 H5))) ∧ (mkR H 8 2 [(Value.int .i64 0)] v2 v2 (fun v8 H7 => mkR H7 8 2 [(Value.int .i64 0)] v1 v1 (fun v10 H9 => B20 P x2 x6 x7 v10 v8 H9)))))
theorem q21 (P : PT) : QT Tryz.prog T0 89 o21 (.op 0 [] (.op 1 [] (.op 3 [] (.op 4 [] (.alt (.op 2 [] (.op 6 [] (.op 5 [] (.op 7 [] .done)))) (.op 5 [] (.op 2 [] (.op 6 [] (.op 7 [] .done))))))))) (En 89 k5 (B20 P)) k7 (B21 P) := fun _ _ _ _ _  => by kernel_rfl
abbrev k8 : Sk := [(2,.x),(6,.v)]
noncomputable def o22 := ob Tryz.f107 [.r,.r,.l]
def B22 (P : PT) (x2 : Nat) (x6 : Value) (H : AHeap) : Prop :=
  ldI .i64 H x2 0 (fun v1 => AC Tryz.prog T0 105 [(Value.int .i64 v1), x6] H (fun v2 H3 => B21 P x2 x6 v2 H3))
theorem q22 (P : PT) : QB Tryz.prog T0 89 o22 (En 89 k7 (B21 P)) k8 (B22 P) := fun _ _ _ _  => by kernel_rfl
abbrev k9 : Sk := [(1,.v),(2,.x)]
noncomputable def o23 := ob Tryz.f107 [.r,.l]
def B23 (P : PT) (x1 : Value) (x2 : Nat) (H : AHeap) : Prop :=
  ldI .i64 H x2 0 (fun v1 => ld1 H x2 1 (fun v2 => AC Tryz.prog T0 93 [(Value.agg ⟨[(Value.int .i64 v1), v2]⟩), x1] H (fun v3 H4 => B22 P x2 v3 H4)))
theorem q23 (P : PT) : QB Tryz.prog T0 89 o23 (En 89 k8 (B22 P)) k9 (B23 P) := fun _ _ _ _  => by kernel_rfl
abbrev k10 : Sk := [(0,.g [.i,.v]),(1,.v)]
noncomputable def o24 := ob Tryz.f107 [.l]
def B24 (P : PT) (x0a : Int) (x0b x1 : Value) (H : AHeap) : Prop :=
  newK H [(Value.int .i64 x0a), x0b] 26 (fun b1 H2 => B23 P x1 b1 H2)
theorem q24 (P : PT) : QB Tryz.prog T0 89 o24 (En 89 k9 (B23 P)) k10 (B24 P) := fun _ _ _ _ _  => by kernel_rfl
noncomputable def code : Code := (.seq (.region 0 ⟨o24⟩ false) (.seq (.region 1 ⟨o23⟩ false) (.seq (.region 2 ⟨o22⟩ false) (.seq (.region 3 ⟨o21⟩ true) (.seq (.seq (.region 4 ⟨o20⟩ false) (.block 0 (.loop (.seq (.seq (.region 5 ⟨o19⟩ false) (.cond (.tmp 31) .skip (.exit 0))) (.seq (.block 1 (.region 7 ⟨o18⟩ false)) (.region 6 ⟨o17⟩ false)))))) (.seq (.seq (.region 8 ⟨o15⟩ false) (.block 2 (.loop (.seq (.seq (.region 9 ⟨o14⟩ false) (.cond (.tmp 46) .skip (.exit 2))) (.seq (.block 3 (.region 11 ⟨o13⟩ false)) (.region 10 ⟨o12⟩ false)))))) (.seq (.region 12 ⟨o10⟩ false) (.seq (.seq (.region 13 ⟨o9⟩ false) (.block 4 (.loop (.seq (.seq (.region 14 ⟨o8⟩ false) (.cond (.tmp 65) .skip (.exit 4))) (.seq (.block 5 (.seq (.seq (.region 16 ⟨o7⟩ false) (.cond (.tmp 73) (.exit 5) .skip)) (.seq (.region 17 ⟨o6⟩ false) (.seq (.region 18 ⟨o5⟩ true) (.cond (.tmp 84) (.region 19 ⟨o4⟩ false) .skip))))) (.region 15 ⟨o3⟩ false)))))) (.seq (.region 20 ⟨o1⟩ false) .ret)))))))))
theorem body : Tryz.f107.body = some code := by kernel_rfl
theorem main (P : PT) : ∀ env H, (En 89 k10 (B24 P)) env H → AW Tryz.prog T0 code env H (mkQ (ret P) (fun _ _ _ => False) (ret P)) :=
  (r_seq (rB T0_ok (q24 P)) (r_seq (rB T0_ok (q23 P)) (r_seq (rB T0_ok (q22 P)) (r_seq (rT T0_ok mixed (.op 0 [] (.op 1 [] (.op 3 [] (.op 4 [] (.alt (.op 2 [] (.op 6 [] (.op 5 [] (.op 7 [] .done)))) (.op 5 [] (.op 2 [] (.op 6 [] (.op 7 [] .done))))))))) (by kernel_rfl) (q21 P)) (r_seq (r_seq (rB T0_ok (q20 P)) (r_block (rL (l16 P) (fun N16 => (r_seq (r_seq (rB T0_ok (q19 P N16)) (r_cond rfl r_skip (r_exit (fun _ _ h => h)))) (r_seq (r_block (rB T0_ok (q18 P N16))) (rB T0_ok (q17 P N16)))))))) (r_seq (r_seq (rB T0_ok (q15 P)) (r_block (rL (l11 P) (fun N11 => (r_seq (r_seq (rB T0_ok (q14 P N11)) (r_cond rfl r_skip (r_exit (fun _ _ h => h)))) (r_seq (r_block (rB T0_ok (q13 P N11))) (rB T0_ok (q12 P N11)))))))) (r_seq (rB T0_ok (q10 P)) (r_seq (r_seq (rB T0_ok (q9 P)) (r_block (rL (l2 P) (fun N2 => (r_seq (r_seq (rB T0_ok (q8 P N2)) (r_cond rfl r_skip (r_exit (fun _ _ h => h)))) (r_seq (r_block (r_seq (r_seq (rB T0_ok (q7 P N2)) (r_cond rfl (r_exit (fun _ _ h => h)) r_skip)) (r_seq (rB T0_ok (q6 P N2)) (r_seq (rD T0_ok mixed [(0, false), (1, false), (2, false), (3, false), (4, false), (5, false), (6, false), (7, false), (8, false)] (by kernel_rfl) (q5 P N2)) (r_cond rfl (rB T0_ok (q4 P N2)) r_skip))))) (rB T0_ok (q3 P N2)))))))) (r_seq (rB T0_ok (q1 P)) r_ret)))))))))
theorem ac (P : PT) (x0a : Int) (x0b x1 : Value) (H : AHeap) (h : B24 P x0a x0b x1 H) : AC Tryz.prog T0 107 [(Value.agg ⟨[(Value.int .i64 x0a), x0b]⟩), x1] H P :=
  r_fn T0_ok (c := code) (n := 89) Tryz.func107 body (by kernel_rfl) (main P) (En_mk (x0a, x0b, x1, ()) (by kernel_rfl) ⟨by kernel_rfl, by kernel_rfl, trivial⟩ h)

end F107
-- (loop.example/g01329/impl.set).has
namespace F134
noncomputable def ret (P : PT) : EP := retE T0 10 Tryz.f134 P
abbrev k0 : Sk := [(0,.i .u64),(1,.i .i64)]
noncomputable def o1 := ob Tryz.f134 [.r,.l]
def B1 (P : PT) (x0 x1 : Int) (H : AHeap) : Prop :=
  ((0 : Int) ≤ x1) ∧ (P (Value.bool ((IntKind.u64.wrap (BitVec.ofInt 64 (Int.fdiv x0 (2 ^ (min (Int.toNat x1) 64))) &&& BitVec.ofInt 64 1).toNat : Int) == 1)) H)
theorem q1 (P : PT) : QB Tryz.prog T0 10 o1 (ret P) k0 (B1 P) := fun _ _ _ _  => by kernel_rfl
noncomputable def o2 := ob Tryz.f134 [.l]
def B2 (P : PT) (x0 x1 : Int) (H : AHeap) : Prop :=
  B1 P x0 x1 H
theorem q2 (P : PT) : QB Tryz.prog T0 10 o2 (En 10 k0 (B1 P)) k0 (B2 P) := fun _ _ _ _  => by kernel_rfl
noncomputable def code : Code := (.seq (.region 0 ⟨o2⟩ false) (.seq (.region 1 ⟨o1⟩ false) .ret))
theorem body : Tryz.f134.body = some code := by kernel_rfl
theorem main (P : PT) : ∀ env H, (En 10 k0 (B2 P)) env H → AW Tryz.prog T0 code env H (mkQ (ret P) (fun _ _ _ => False) (ret P)) :=
  (r_seq (rB T0_ok (q2 P)) (r_seq (rB T0_ok (q1 P)) r_ret))
theorem ac (P : PT) (x0 x1 : Int) (H : AHeap) (h : B2 P x0 x1 H) : AC Tryz.prog T0 134 [(Value.int .u64 x0), (Value.int .i64 x1)] H P :=
  r_fn T0_ok (c := code) (n := 10) Tryz.func134 body (by kernel_rfl) (main P) (En_mk (x0, x1, ()) (by kernel_rfl) ⟨by kernel_rfl, by kernel_rfl, trivial⟩ h)

end F134
-- loop.example/g01329/spec.l01Own
namespace F138
noncomputable def ret (P : PT) : EP := retE T0 6 Tryz.f138 P
abbrev k0 : Sk := [(0,.v)]
noncomputable def o1 := ob Tryz.f138 [.r,.l]
def B1 (P : PT) (x0 : Value) (H : AHeap) : Prop :=
  newK H [] 2 (fun b1 H2 => apK T0 2 H2 (Value.slice (some ⟨b1, 0, none⟩) 0 (0 + 1)) x0 (fun v3 H4 => P v3 H4))
theorem q1 (P : PT) : QB Tryz.prog T0 6 o1 (ret P) k0 (B1 P) := fun _ _ _  => by kernel_rfl
noncomputable def o2 := ob Tryz.f138 [.l]
def B2 (P : PT) (x0 : Value) (H : AHeap) : Prop :=
  B1 P x0 H
theorem q2 (P : PT) : QB Tryz.prog T0 6 o2 (En 6 k0 (B1 P)) k0 (B2 P) := fun _ _ _  => by kernel_rfl
noncomputable def code : Code := (.seq (.region 0 ⟨o2⟩ false) (.seq (.region 1 ⟨o1⟩ false) .ret))
theorem body : Tryz.f138.body = some code := by kernel_rfl
theorem main (P : PT) : ∀ env H, (En 6 k0 (B2 P)) env H → AW Tryz.prog T0 code env H (mkQ (ret P) (fun _ _ _ => False) (ret P)) :=
  (r_seq (rB T0_ok (q2 P)) (r_seq (rB T0_ok (q1 P)) r_ret))
theorem ac (P : PT) (x0 : Value) (H : AHeap) (h : B2 P x0 H) : AC Tryz.prog T0 138 [x0] H P :=
  r_fn T0_ok (c := code) (n := 6) Tryz.func138 body (by kernel_rfl) (main P) (En_mk (x0, ()) (by kernel_rfl) ⟨by kernel_rfl, trivial⟩ h)

end F138
-- loop.example/g01329/spec.l01Made
namespace F141
noncomputable def ret (P : PT) : EP := retE T0 9 Tryz.f141 P
abbrev k0 : Sk := [(0,.i .i64),(1,.v),(4,.x)]
noncomputable def o1 := ob Tryz.f141 [.r,.l]
def B1 (P : PT) (x0 : Int) (x1 : Value) (x4 : Nat) (H : AHeap) : Prop :=
  AC Tryz.prog T0 182 [x1] H (fun v1 H2 => pif (Value.oneCell' v1) (stK H2 x4 0 [(Value.int .i64 x0), v1] (fun H4 => ldI .i64 H4 x4 0 (fun v5 => ld1 H4 x4 1 (fun v6 => P (Value.agg ⟨[(Value.int .i64 v5), v6]⟩) H4)))) False)
theorem q1 (P : PT) : QB Tryz.prog T0 9 o1 (ret P) k0 (B1 P) := fun _ _ _ _ _  => by kernel_rfl
abbrev k1 : Sk := [(0,.i .i64),(1,.v)]
noncomputable def o2 := ob Tryz.f141 [.l]
def B2 (P : PT) (x0 : Int) (x1 : Value) (H : AHeap) : Prop :=
  newK H [(Value.int .i64 0), (Value.slice none 0 0)] 26 (fun b1 H2 => B1 P x0 x1 b1 H2)
theorem q2 (P : PT) : QB Tryz.prog T0 9 o2 (En 9 k0 (B1 P)) k1 (B2 P) := fun _ _ _ _  => by kernel_rfl
noncomputable def code : Code := (.seq (.region 0 ⟨o2⟩ false) (.seq (.region 1 ⟨o1⟩ false) .ret))
theorem body : Tryz.f141.body = some code := by kernel_rfl
theorem main (P : PT) : ∀ env H, (En 9 k1 (B2 P)) env H → AW Tryz.prog T0 code env H (mkQ (ret P) (fun _ _ _ => False) (ret P)) :=
  (r_seq (rB T0_ok (q2 P)) (r_seq (rB T0_ok (q1 P)) r_ret))
theorem ac (P : PT) (x0 : Int) (x1 : Value) (H : AHeap) (h : B2 P x0 x1 H) : AC Tryz.prog T0 141 [(Value.int .i64 x0), x1] H P :=
  r_fn T0_ok (c := code) (n := 9) Tryz.func141 body (by kernel_rfl) (main P) (En_mk (x0, x1, ()) (by kernel_rfl) ⟨by kernel_rfl, by kernel_rfl, trivial⟩ h)

end F141
-- loop.example/g01329/spec.l01Cycle
namespace F142
noncomputable def ret (P : PT) : EP := retE T0 29 Tryz.f142 P
abbrev k0 : Sk := [(0,.v)]
noncomputable def o1 := ob Tryz.f142 [.r,.r,.l]
def B1 (P : PT) (x0 : Value) (H : AHeap) : Prop :=
  P x0 H
theorem q1 (P : PT) : QB Tryz.prog T0 29 o1 (ret P) k0 (B1 P) := fun _ _ _  => by kernel_rfl
abbrev k1 : Sk := [(0,.v),(1,.v),(5,.i .i64)]
noncomputable def o3 := ob Tryz.f142 [.r,.l,.r,.l,.l,.r,.r]
def B3 (P : PT) (N2 : NTy k1 Pr) (x0 x1 : Value) (x5 : Int) (H : AHeap) : Prop :=
  N2 x0 x1 (IntKind.i64.wrap (x5 + 1)) H
theorem q3 (P : PT) (N2 : NTy k1 Pr) : QB Tryz.prog T0 29 o3 (En 29 k1 N2) k1 (B3 P N2) := fun _ _ _ _ _  => by kernel_rfl
noncomputable def o4 := ob Tryz.f142 [.r,.l,.r,.l,.l,.r,.l,.l]
def B4 (P : PT) (N2 : NTy k1 Pr) (x0 x1 : Value) (x5 : Int) (H : AHeap) : Prop :=
  idxK x1 x5 1 (fun b1 o2 => ldI .i64 H b1 o2 (fun v3 => lenK x1 (fun n4 => nzK (n4 : Int) (idxK x1 (Int.tmod (IntKind.i64.wrap (x5 + 1)) (n4 : Int)) 1 (fun b5 o6 => ldI .i64 H b5 o6 (fun v7 => newK H [(Value.int .i64 v3), (Value.int .i64 v7)] 78 (fun b8 H9 => apK T0 78 H9 x0 (Value.slice (some ⟨b8, 0, none⟩) 1 (1 + 1)) (fun v10 H11 => B3 P N2 v10 x1 x5 H11))))))))
theorem q4 (P : PT) (N2 : NTy k1 Pr) : QD Tryz.prog T0 29 o4 [(0, false), (1, false), (2, false), (3, false), (4, false), (5, false), (6, false), (7, false), (8, false), (9, false), (10, false), (11, false), (12, false), (13, false), (14, false), (15, false), (16, false)] (En 29 k1 (B3 P N2)) k1 (B4 P N2) := fun _ _ _ _ _  => by kernel_rfl
noncomputable def o5 := ob Tryz.f142 [.r,.l,.r,.l,.l,.l,.l]
def B5 (P : PT) (N2 : NTy k1 Pr) (x0 x1 : Value) (x5 : Int) (H : AHeap) : Prop :=
  lenK x1 (fun n1 => pif (decide ((x5 : Int) < (n1 : Int))) (B4 P N2 x0 x1 x5 H) (B1 P x0 H))
theorem q5 (P : PT) (N2 : NTy k1 Pr) : QB Tryz.prog T0 29 o5 (cnd 9 (En 29 k1 (B4 P N2)) (En 29 k0 (B1 P))) k1 (B5 P N2) := fun _ _ _ _ _  => by kernel_rfl
def L2 (P : PT) (x0 x1 : Value) (x5 : Int) (H : AHeap) : Prop :=
  ∃ (I : NTy k1 Pr) (μ : NTy k1 (AHeap → Nat)), I x0 x1 x5 H ∧ ∀ y0 y1 y5 G, I y0 y1 y5 G → B5 P (fun z0 z1 z5 G' => I z0 z1 z5 G' ∧ μ z0 z1 z5 G' < μ y0 y1 y5 G) y0 y1 y5 G
theorem l2 (P : PT) : LQ k1 (L2 P) (B5 P) := fun ⟨_,_,_,_⟩ _ ⟨I, μ, h0, hI⟩ => ⟨apT _ I, apT _ μ, h0, fun ⟨_,_,_,_⟩ _ h => hI _ _ _ _  h⟩
abbrev k2 : Sk := [(0,.v),(1,.v)]
noncomputable def o6 := ob Tryz.f142 [.r,.l,.l]
def B6 (P : PT) (x0 x1 : Value) (H : AHeap) : Prop :=
  L2 P x0 x1 0 H
theorem q6 (P : PT) : QB Tryz.prog T0 29 o6 (En 29 k1 (L2 P)) k2 (B6 P) := fun _ _ _ _  => by kernel_rfl
noncomputable def o7 := ob Tryz.f142 [.l]
def B7 (P : PT) (x0 x1 : Value) (H : AHeap) : Prop :=
  B6 P x0 x1 H
theorem q7 (P : PT) : QB Tryz.prog T0 29 o7 (En 29 k2 (B6 P)) k2 (B7 P) := fun _ _ _ _  => by kernel_rfl
noncomputable def code : Code := (.seq (.region 0 ⟨o7⟩ false) (.seq (.seq (.region 1 ⟨o6⟩ false) (.block 0 (.loop (.seq (.seq (.region 2 ⟨o5⟩ false) (.cond (.tmp 9) .skip (.exit 0))) (.seq (.block 1 (.region 4 ⟨o4⟩ true)) (.region 3 ⟨o3⟩ false)))))) (.seq (.region 5 ⟨o1⟩ false) .ret)))
theorem body : Tryz.f142.body = some code := by kernel_rfl
theorem main (P : PT) : ∀ env H, (En 29 k2 (B7 P)) env H → AW Tryz.prog T0 code env H (mkQ (ret P) (fun _ _ _ => False) (ret P)) :=
  (r_seq (rB T0_ok (q7 P)) (r_seq (r_seq (rB T0_ok (q6 P)) (r_block (rL (l2 P) (fun N2 => (r_seq (r_seq (rB T0_ok (q5 P N2)) (r_cond rfl r_skip (r_exit (fun _ _ h => h)))) (r_seq (r_block (rD T0_ok mixed [(0, false), (1, false), (2, false), (3, false), (4, false), (5, false), (6, false), (7, false), (8, false), (9, false), (10, false), (11, false), (12, false), (13, false), (14, false), (15, false), (16, false)] (by kernel_rfl) (q4 P N2))) (rB T0_ok (q3 P N2)))))))) (r_seq (rB T0_ok (q1 P)) r_ret)))
theorem ac (P : PT) (x0 x1 : Value) (H : AHeap) (h : B7 P x0 x1 H) : AC Tryz.prog T0 142 [x0, x1] H P :=
  r_fn T0_ok (c := code) (n := 29) Tryz.func142 body (by kernel_rfl) (main P) (En_mk (x0, x1, ()) (by kernel_rfl) ⟨by kernel_rfl, by kernel_rfl, trivial⟩ h)

end F142
-- loop.example/g01329/impl.IsGraph
namespace F143
noncomputable def ret (P : PT) : EP := retE T0 25 Tryz.f143 P
abbrev k0 : Sk := [(1,.x)]
noncomputable def o1 := ob Tryz.f143 [.r,.l]
def B1 (P : PT) (x1 : Nat) (H : AHeap) : Prop :=
  ldI .i64 H x1 0 (fun v1 => ld1 H x1 1 (fun v2 => AC Tryz.prog T0 183 [(Value.int .i64 v1), v2] H (fun v3 H4 => asB v3 (fun v5 => pif v5 (ld1 H4 x1 1 (fun v6 => AC Tryz.prog T0 184 [v6, (Value.func (.func 185) ⟨[]⟩ ⟨[]⟩)] H4 (fun v7 H8 => asB v7 (fun v9 => pif v9 (ld1 H8 x1 1 (fun v10 => AC Tryz.prog T0 186 [v10, (Value.func (.func 187) ⟨[]⟩ ⟨[]⟩)] H8 (fun v11 H12 => asB v11 (fun v13 => pif v13 (ldI .i64 H12 x1 0 (fun v14 => ld1 H12 x1 1 (fun v15 => AC Tryz.prog T0 188 [(Value.int .i64 v14), v15] H12 (fun v16 H17 => asB v16 (fun v18 => P (Value.bool v18) H17))))) (P (Value.bool false) H12))))) (P (Value.bool false) H8))))) (P (Value.bool false) H4)))))
theorem q1 (P : PT) : QB Tryz.prog T0 25 o1 (ret P) k0 (B1 P) := fun _ _ _  => by kernel_rfl
abbrev k1 : Sk := [(0,.g [.i,.v])]
noncomputable def o2 := ob Tryz.f143 [.l]
def B2 (P : PT) (x0a : Int) (x0b : Value) (H : AHeap) : Prop :=
  newK H [(Value.int .i64 x0a), x0b] 26 (fun b1 H2 => B1 P b1 H2)
theorem q2 (P : PT) : QB Tryz.prog T0 25 o2 (En 25 k0 (B1 P)) k1 (B2 P) := fun _ _ _ _  => by kernel_rfl
noncomputable def code : Code := (.seq (.region 0 ⟨o2⟩ false) (.seq (.region 1 ⟨o1⟩ false) .ret))
theorem body : Tryz.f143.body = some code := by kernel_rfl
theorem main (P : PT) : ∀ env H, (En 25 k1 (B2 P)) env H → AW Tryz.prog T0 code env H (mkQ (ret P) (fun _ _ _ => False) (ret P)) :=
  (r_seq (rB T0_ok (q2 P)) (r_seq (rB T0_ok (q1 P)) r_ret))
theorem ac (P : PT) (x0a : Int) (x0b : Value) (H : AHeap) (h : B2 P x0a x0b H) : AC Tryz.prog T0 143 [(Value.agg ⟨[(Value.int .i64 x0a), x0b]⟩)] H P :=
  r_fn T0_ok (c := code) (n := 25) Tryz.func143 body (by kernel_rfl) (main P) (En_mk (x0a, x0b, ()) (by kernel_rfl) ⟨by kernel_rfl, trivial⟩ h)

end F143
-- loop.example/g01329/spec.l01Ends
namespace F144
noncomputable def ret (P : PT) : EP := retE T0 61 Tryz.f144 P
abbrev k0 : Sk := []
noncomputable def o1 := ob Tryz.f144 [.r,.r,.r,.l]
def B1 (P : PT) (H : AHeap) : Prop :=
  P (Value.int .i64 0) H
theorem q1 (P : PT) : QB Tryz.prog T0 61 o1 (ret P) k0 (B1 P) := fun _ _  => by kernel_rfl
abbrev k1 : Sk := [(0,.i .i64),(1,.v),(5,.i .i64)]
noncomputable def o3 := ob Tryz.f144 [.r,.r,.l,.r,.l,.l,.r,.r]
def B3 (P : PT) (N2 : NTy k1 Pr) (x0 : Int) (x1 : Value) (x5 : Int) (H : AHeap) : Prop :=
  N2 x0 x1 (IntKind.i64.wrap (x5 + 1)) H
theorem q3 (P : PT) (N2 : NTy k1 Pr) : QB Tryz.prog T0 61 o3 (En 61 k1 N2) k1 (B3 P N2) := fun _ _ _ _ _  => by kernel_rfl
noncomputable def o4 := ob Tryz.f144 [.r,.r,.l,.r,.l,.l,.r,.l,.l,.r,.l,.l]
def B4 (P : PT) (N2 : NTy k1 Pr) (H : AHeap) : Prop :=
  P (Value.int .i64 2) H
theorem q4 (P : PT) (N2 : NTy k1 Pr) : QB Tryz.prog T0 61 o4 (ret P) k0 (B4 P N2) := fun _ _  => by kernel_rfl
noncomputable def o5 := ob Tryz.f144 [.r,.r,.l,.r,.l,.l,.r,.l,.l,.l]
def B5 (P : PT) (N2 : NTy k1 Pr) (x0 : Int) (x1 : Value) (x5 : Int) (H : AHeap) : Prop :=
  idxK x1 x5 2 (fun b1 o2 => ldI .i64 H b1 o2 (fun v3 => AC Tryz.prog T0 85 [(Value.int .i64 v3), (Value.int .i64 0), (Value.int .i64 (IntKind.i64.wrap (x0 - 1)))] H (fun v4 H5 => asB v4 (fun v6 => pif (!v6) (B4 P N2 H5) (idxK x1 x5 2 (fun b7 o8 => ldI .i64 H5 b7 (o8 + 1) (fun v9 => AC Tryz.prog T0 85 [(Value.int .i64 v9), (Value.int .i64 0), (Value.int .i64 (IntKind.i64.wrap (x0 - 1)))] H5 (fun v10 H11 => asB v10 (fun v12 => pif (!v12) (B4 P N2 H11) (idxK x1 x5 2 (fun b13 o14 => ldI .i64 H11 b13 o14 (fun v15 => idxK x1 x5 2 (fun b16 o17 => ldI .i64 H11 b16 (o17 + 1) (fun v18 => pif ((v15 : Int) == v18) (B4 P N2 H11) (B3 P N2 x0 x1 x5 H11)))))))))))))))
theorem q5 (P : PT) (N2 : NTy k1 Pr) : QD Tryz.prog T0 61 o5 [(0, false), (1, false), (2, false), (3, false), (4, false), (5, false), (6, false), (7, false), (8, false), (9, false), (10, false), (11, false), (12, false), (13, false), (14, false), (15, false), (16, false), (17, false), (18, false), (19, false), (20, false), (21, false), (22, false), (23, false), (24, false), (25, false), (26, false), (27, false), (28, false), (29, false), (30, false), (31, false), (32, false)] (cnd 60 (En 61 k0 (B4 P N2)) (En 61 k1 (B3 P N2))) k1 (B5 P N2) := fun _ _ _ _ _  => by kernel_rfl
noncomputable def o6 := ob Tryz.f144 [.r,.r,.l,.r,.l,.l,.l,.l]
def B6 (P : PT) (N2 : NTy k1 Pr) (x0 : Int) (x1 : Value) (x5 : Int) (H : AHeap) : Prop :=
  lenK x1 (fun n1 => pif (decide ((x5 : Int) < (n1 : Int))) (B5 P N2 x0 x1 x5 H) (B1 P H))
theorem q6 (P : PT) (N2 : NTy k1 Pr) : QB Tryz.prog T0 61 o6 (cnd 25 (En 61 k1 (B5 P N2)) (En 61 k0 (B1 P))) k1 (B6 P N2) := fun _ _ _ _ _  => by kernel_rfl
def L2 (P : PT) (x0 : Int) (x1 : Value) (x5 : Int) (H : AHeap) : Prop :=
  ∃ (I : NTy k1 Pr) (μ : NTy k1 (AHeap → Nat)), I x0 x1 x5 H ∧ ∀ y0 y1 y5 G, I y0 y1 y5 G → B6 P (fun z0 z1 z5 G' => I z0 z1 z5 G' ∧ μ z0 z1 z5 G' < μ y0 y1 y5 G) y0 y1 y5 G
theorem l2 (P : PT) : LQ k1 (L2 P) (B6 P) := fun ⟨_,_,_,_⟩ _ ⟨I, μ, h0, hI⟩ => ⟨apT _ I, apT _ μ, h0, fun ⟨_,_,_,_⟩ _ h => hI _ _ _ _  h⟩
abbrev k2 : Sk := [(0,.i .i64),(1,.v)]
noncomputable def o7 := ob Tryz.f144 [.r,.r,.l,.l]
def B7 (P : PT) (x0 : Int) (x1 : Value) (H : AHeap) : Prop :=
  L2 P x0 x1 0 H
theorem q7 (P : PT) : QB Tryz.prog T0 61 o7 (En 61 k1 (L2 P)) k2 (B7 P) := fun _ _ _ _  => by kernel_rfl
noncomputable def o8 := ob Tryz.f144 [.r,.l,.r,.l,.l]
def B8 (P : PT) (H : AHeap) : Prop :=
  P (Value.int .i64 2) H
theorem q8 (P : PT) : QB Tryz.prog T0 61 o8 (ret P) k0 (B8 P) := fun _ _  => by kernel_rfl
noncomputable def o9 := ob Tryz.f144 [.r,.l,.l]
def B9 (P : PT) (x0 : Int) (x1 : Value) (H : AHeap) : Prop :=
  AC Tryz.prog T0 85 [(Value.int .i64 x0), (Value.int .i64 2), (Value.int .i64 20)] H (fun v1 H2 => asB v1 (fun v3 => pif (!v3) (B8 P H2) (pif ((Int.tmod x0 2 : Int) != 0) (B8 P H2) (lenK x1 (fun n4 => pif (((n4 : Int) : Int) != (IntKind.i64.wrap (Int.tdiv (IntKind.i64.wrap (3 * x0)) 2))) (B8 P H2) (B7 P x0 x1 H2))))))
theorem q9 (P : PT) : QB Tryz.prog T0 61 o9 (cnd 21 (En 61 k0 (B8 P)) (En 61 k2 (B7 P))) k2 (B9 P) := fun _ _ _ _  => by kernel_rfl
noncomputable def o10 := ob Tryz.f144 [.l]
def B10 (P : PT) (x0 : Int) (x1 : Value) (H : AHeap) : Prop :=
  B9 P x0 x1 H
theorem q10 (P : PT) : QB Tryz.prog T0 61 o10 (En 61 k2 (B9 P)) k2 (B10 P) := fun _ _ _ _  => by kernel_rfl
noncomputable def code : Code := (.seq (.region 0 ⟨o10⟩ false) (.seq (.seq (.region 1 ⟨o9⟩ false) (.cond (.tmp 21) (.seq (.region 2 ⟨o8⟩ false) .ret) .skip)) (.seq (.seq (.region 3 ⟨o7⟩ false) (.block 0 (.loop (.seq (.seq (.region 4 ⟨o6⟩ false) (.cond (.tmp 25) .skip (.exit 0))) (.seq (.block 1 (.seq (.region 6 ⟨o5⟩ true) (.cond (.tmp 60) (.seq (.region 7 ⟨o4⟩ false) .ret) .skip))) (.region 5 ⟨o3⟩ false)))))) (.seq (.region 8 ⟨o1⟩ false) .ret))))
theorem body : Tryz.f144.body = some code := by kernel_rfl
theorem main (P : PT) : ∀ env H, (En 61 k2 (B10 P)) env H → AW Tryz.prog T0 code env H (mkQ (ret P) (fun _ _ _ => False) (ret P)) :=
  (r_seq (rB T0_ok (q10 P)) (r_seq (r_seq (rB T0_ok (q9 P)) (r_cond rfl (r_seq (rB T0_ok (q8 P)) r_ret) r_skip)) (r_seq (r_seq (rB T0_ok (q7 P)) (r_block (rL (l2 P) (fun N2 => (r_seq (r_seq (rB T0_ok (q6 P N2)) (r_cond rfl r_skip (r_exit (fun _ _ h => h)))) (r_seq (r_block (r_seq (rD T0_ok mixed [(0, false), (1, false), (2, false), (3, false), (4, false), (5, false), (6, false), (7, false), (8, false), (9, false), (10, false), (11, false), (12, false), (13, false), (14, false), (15, false), (16, false), (17, false), (18, false), (19, false), (20, false), (21, false), (22, false), (23, false), (24, false), (25, false), (26, false), (27, false), (28, false), (29, false), (30, false), (31, false), (32, false)] (by kernel_rfl) (q5 P N2)) (r_cond rfl (r_seq (rB T0_ok (q4 P N2)) r_ret) r_skip))) (rB T0_ok (q3 P N2)))))))) (r_seq (rB T0_ok (q1 P)) r_ret))))
theorem ac (P : PT) (x0 : Int) (x1 : Value) (H : AHeap) (h : B10 P x0 x1 H) : AC Tryz.prog T0 144 [(Value.int .i64 x0), x1] H P :=
  r_fn T0_ok (c := code) (n := 61) Tryz.func144 body (by kernel_rfl) (main P) (En_mk (x0, x1, ()) (by kernel_rfl) ⟨by kernel_rfl, by kernel_rfl, trivial⟩ h)

end F144
-- loop.example/g01329/spec.l01Cubic
namespace F145
noncomputable def ret (P : PT) : EP := retE T0 46 Tryz.f145 P
abbrev k0 : Sk := []
noncomputable def o1 := ob Tryz.f145 [.r,.r,.r,.r,.l]
def B1 (P : PT) (H : AHeap) : Prop :=
  P (Value.bool true) H
theorem q1 (P : PT) : QB Tryz.prog T0 46 o1 (ret P) k0 (B1 P) := fun _ _  => by kernel_rfl
abbrev k1 : Sk := [(0,.i .i64),(5,.v),(7,.i .i64)]
noncomputable def o3 := ob Tryz.f145 [.r,.r,.r,.l,.r,.l,.l,.r,.r]
def B3 (P : PT) (N2 : NTy k1 Pr) (x0 : Int) (x5 : Value) (x7 : Int) (H : AHeap) : Prop :=
  N2 x0 x5 (IntKind.i64.wrap (x7 + 1)) H
theorem q3 (P : PT) (N2 : NTy k1 Pr) : QB Tryz.prog T0 46 o3 (En 46 k1 N2) k1 (B3 P N2) := fun _ _ _ _ _  => by kernel_rfl
noncomputable def o4 := ob Tryz.f145 [.r,.r,.r,.l,.r,.l,.l,.r,.l,.l,.r,.l,.l]
def B4 (P : PT) (N2 : NTy k1 Pr) (H : AHeap) : Prop :=
  P (Value.bool false) H
theorem q4 (P : PT) (N2 : NTy k1 Pr) : QB Tryz.prog T0 46 o4 (ret P) k0 (B4 P N2) := fun _ _  => by kernel_rfl
noncomputable def o5 := ob Tryz.f145 [.r,.r,.r,.l,.r,.l,.l,.r,.l,.l,.l]
def B5 (P : PT) (N2 : NTy k1 Pr) (x0 : Int) (x5 : Value) (x7 : Int) (H : AHeap) : Prop :=
  idxK x5 x7 1 (fun b1 o2 => ldI .i64 H b1 o2 (fun v3 => pif ((v3 : Int) != 3) (B4 P N2 H) (B3 P N2 x0 x5 x7 H)))
theorem q5 (P : PT) (N2 : NTy k1 Pr) : QB Tryz.prog T0 46 o5 (cnd 45 (En 46 k0 (B4 P N2)) (En 46 k1 (B3 P N2))) k1 (B5 P N2) := fun _ _ _ _ _  => by kernel_rfl
noncomputable def o6 := ob Tryz.f145 [.r,.r,.r,.l,.r,.l,.l,.l,.l]
def B6 (P : PT) (N2 : NTy k1 Pr) (x0 : Int) (x5 : Value) (x7 : Int) (H : AHeap) : Prop :=
  pif (decide ((x7 : Int) < x0)) (B5 P N2 x0 x5 x7 H) (B1 P H)
theorem q6 (P : PT) (N2 : NTy k1 Pr) : QB Tryz.prog T0 46 o6 (cnd 38 (En 46 k1 (B5 P N2)) (En 46 k0 (B1 P))) k1 (B6 P N2) := fun _ _ _ _ _  => by kernel_rfl
def L2 (P : PT) (x0 : Int) (x5 : Value) (x7 : Int) (H : AHeap) : Prop :=
  ∃ (I : NTy k1 Pr) (μ : NTy k1 (AHeap → Nat)), I x0 x5 x7 H ∧ ∀ y0 y5 y7 G, I y0 y5 y7 G → B6 P (fun z0 z5 z7 G' => I z0 z5 z7 G' ∧ μ z0 z5 z7 G' < μ y0 y5 y7 G) y0 y5 y7 G
theorem l2 (P : PT) : LQ k1 (L2 P) (B6 P) := fun ⟨_,_,_,_⟩ _ ⟨I, μ, h0, hI⟩ => ⟨apT _ I, apT _ μ, h0, fun ⟨_,_,_,_⟩ _ h => hI _ _ _ _  h⟩
abbrev k2 : Sk := [(0,.i .i64),(5,.v)]
noncomputable def o7 := ob Tryz.f145 [.r,.r,.r,.l,.l]
def B7 (P : PT) (x0 : Int) (x5 : Value) (H : AHeap) : Prop :=
  L2 P x0 x5 0 H
theorem q7 (P : PT) : QB Tryz.prog T0 46 o7 (En 46 k1 (L2 P)) k2 (B7 P) := fun _ _ _ _  => by kernel_rfl
abbrev k3 : Sk := [(0,.i .i64),(1,.v),(5,.v),(6,.i .i64)]
noncomputable def o9 := ob Tryz.f145 [.r,.r,.l,.r,.l,.l,.r,.r]
def B9 (P : PT) (N8 : NTy k3 Pr) (x0 : Int) (x1 x5 : Value) (x6 : Int) (H : AHeap) : Prop :=
  N8 x0 x1 x5 (IntKind.i64.wrap (x6 + 1)) H
theorem q9 (P : PT) (N8 : NTy k3 Pr) : QB Tryz.prog T0 46 o9 (En 46 k3 N8) k3 (B9 P N8) := fun _ _ _ _ _ _  => by kernel_rfl
noncomputable def o10 := ob Tryz.f145 [.r,.r,.l,.r,.l,.l,.r,.l,.l,.r]
def B10 (P : PT) (N8 : NTy k3 Pr) (x0 : Int) (x1 x5 : Value) (x6 : Int) (H : AHeap) : Prop :=
  idxK x1 x6 2 (fun b1 o2 => ldI .i64 H b1 (o2 + 1) (fun v3 => idxK x5 v3 1 (fun b4 o5 => ldI .i64 H b4 o5 (fun v6 => idxK x5 v3 1 (fun b7 o8 => stK H b7 o8 [(Value.int .i64 (IntKind.i64.wrap (v6 + 1)))] (fun H9 => B9 P N8 x0 x1 x5 x6 H9))))))
theorem q10 (P : PT) (N8 : NTy k3 Pr) : QB Tryz.prog T0 46 o10 (En 46 k3 (B9 P N8)) k3 (B10 P N8) := fun _ _ _ _ _ _  => by kernel_rfl
noncomputable def o11 := ob Tryz.f145 [.r,.r,.l,.r,.l,.l,.r,.l,.l,.l]
def B11 (P : PT) (N8 : NTy k3 Pr) (x0 : Int) (x1 x5 : Value) (x6 : Int) (H : AHeap) : Prop :=
  idxK x1 x6 2 (fun b1 o2 => ldI .i64 H b1 o2 (fun v3 => idxK x5 v3 1 (fun b4 o5 => ldI .i64 H b4 o5 (fun v6 => idxK x5 v3 1 (fun b7 o8 => stK H b7 o8 [(Value.int .i64 (IntKind.i64.wrap (v6 + 1)))] (fun H9 => B10 P N8 x0 x1 x5 x6 H9))))))
theorem q11 (P : PT) (N8 : NTy k3 Pr) : QB Tryz.prog T0 46 o11 (En 46 k3 (B10 P N8)) k3 (B11 P N8) := fun _ _ _ _ _ _  => by kernel_rfl
noncomputable def o12 := ob Tryz.f145 [.r,.r,.l,.r,.l,.l,.l,.l]
def B12 (P : PT) (N8 : NTy k3 Pr) (x0 : Int) (x1 x5 : Value) (x6 : Int) (H : AHeap) : Prop :=
  lenK x1 (fun n1 => pif (decide ((x6 : Int) < (n1 : Int))) (B11 P N8 x0 x1 x5 x6 H) (B7 P x0 x5 H))
theorem q12 (P : PT) (N8 : NTy k3 Pr) : QB Tryz.prog T0 46 o12 (cnd 13 (En 46 k3 (B11 P N8)) (En 46 k2 (B7 P))) k3 (B12 P N8) := fun _ _ _ _ _ _  => by kernel_rfl
def L8 (P : PT) (x0 : Int) (x1 x5 : Value) (x6 : Int) (H : AHeap) : Prop :=
  ∃ (I : NTy k3 Pr) (μ : NTy k3 (AHeap → Nat)), I x0 x1 x5 x6 H ∧ ∀ y0 y1 y5 y6 G, I y0 y1 y5 y6 G → B12 P (fun z0 z1 z5 z6 G' => I z0 z1 z5 z6 G' ∧ μ z0 z1 z5 z6 G' < μ y0 y1 y5 y6 G) y0 y1 y5 y6 G
theorem l8 (P : PT) : LQ k3 (L8 P) (B12 P) := fun ⟨_,_,_,_,_⟩ _ ⟨I, μ, h0, hI⟩ => ⟨apT _ I, apT _ μ, h0, fun ⟨_,_,_,_,_⟩ _ h => hI _ _ _ _ _  h⟩
abbrev k4 : Sk := [(0,.i .i64),(1,.v),(5,.v)]
noncomputable def o13 := ob Tryz.f145 [.r,.r,.l,.l]
def B13 (P : PT) (x0 : Int) (x1 x5 : Value) (H : AHeap) : Prop :=
  L8 P x0 x1 x5 0 H
theorem q13 (P : PT) : QB Tryz.prog T0 46 o13 (En 46 k3 (L8 P)) k4 (B13 P) := fun _ _ _ _ _  => by kernel_rfl
abbrev k5 : Sk := [(0,.i .i64),(1,.v)]
noncomputable def o14 := ob Tryz.f145 [.r,.l]
def B14 (P : PT) (x0 : Int) (x1 : Value) (H : AHeap) : Prop :=
  mkR H 8 2 [(Value.int .i64 0)] x0 x0 (fun v2 H1 => B13 P x0 x1 v2 H1)
theorem q14 (P : PT) : QB Tryz.prog T0 46 o14 (En 46 k4 (B13 P)) k5 (B14 P) := fun _ _ _ _  => by kernel_rfl
noncomputable def o15 := ob Tryz.f145 [.l]
def B15 (P : PT) (x0 : Int) (x1 : Value) (H : AHeap) : Prop :=
  B14 P x0 x1 H
theorem q15 (P : PT) : QB Tryz.prog T0 46 o15 (En 46 k5 (B14 P)) k5 (B15 P) := fun _ _ _ _  => by kernel_rfl
noncomputable def code : Code := (.seq (.region 0 ⟨o15⟩ false) (.seq (.region 1 ⟨o14⟩ false) (.seq (.seq (.region 2 ⟨o13⟩ false) (.block 0 (.loop (.seq (.seq (.region 3 ⟨o12⟩ false) (.cond (.tmp 13) .skip (.exit 0))) (.seq (.block 1 (.seq (.region 5 ⟨o11⟩ false) (.region 6 ⟨o10⟩ false))) (.region 4 ⟨o9⟩ false)))))) (.seq (.seq (.region 7 ⟨o7⟩ false) (.block 2 (.loop (.seq (.seq (.region 8 ⟨o6⟩ false) (.cond (.tmp 38) .skip (.exit 2))) (.seq (.block 3 (.seq (.region 10 ⟨o5⟩ false) (.cond (.tmp 45) (.seq (.region 11 ⟨o4⟩ false) .ret) .skip))) (.region 9 ⟨o3⟩ false)))))) (.seq (.region 12 ⟨o1⟩ false) .ret)))))
theorem body : Tryz.f145.body = some code := by kernel_rfl
theorem main (P : PT) : ∀ env H, (En 46 k5 (B15 P)) env H → AW Tryz.prog T0 code env H (mkQ (ret P) (fun _ _ _ => False) (ret P)) :=
  (r_seq (rB T0_ok (q15 P)) (r_seq (rB T0_ok (q14 P)) (r_seq (r_seq (rB T0_ok (q13 P)) (r_block (rL (l8 P) (fun N8 => (r_seq (r_seq (rB T0_ok (q12 P N8)) (r_cond rfl r_skip (r_exit (fun _ _ h => h)))) (r_seq (r_block (r_seq (rB T0_ok (q11 P N8)) (rB T0_ok (q10 P N8)))) (rB T0_ok (q9 P N8)))))))) (r_seq (r_seq (rB T0_ok (q7 P)) (r_block (rL (l2 P) (fun N2 => (r_seq (r_seq (rB T0_ok (q6 P N2)) (r_cond rfl r_skip (r_exit (fun _ _ h => h)))) (r_seq (r_block (r_seq (rB T0_ok (q5 P N2)) (r_cond rfl (r_seq (rB T0_ok (q4 P N2)) r_ret) r_skip))) (rB T0_ok (q3 P N2)))))))) (r_seq (rB T0_ok (q1 P)) r_ret)))))
theorem ac (P : PT) (x0 : Int) (x1 : Value) (H : AHeap) (h : B15 P x0 x1 H) : AC Tryz.prog T0 145 [(Value.int .i64 x0), x1] H P :=
  r_fn T0_ok (c := code) (n := 46) Tryz.func145 body (by kernel_rfl) (main P) (En_mk (x0, x1, ()) (by kernel_rfl) ⟨by kernel_rfl, by kernel_rfl, trivial⟩ h)

end F145
-- loop.example/g01329/spec.l01Before
namespace F146
noncomputable def ret (P : PT) : EP := retE T0 24 Tryz.f146 P
abbrev k0 : Sk := [(2,.x),(3,.x)]
noncomputable def o1 := ob Tryz.f146 [.r,.l]
def B1 (P : PT) (x2 x3 : Nat) (H : AHeap) : Prop :=
  ldI .i64 H x2 0 (fun v1 => ldI .i64 H x3 0 (fun v2 => pif (decide ((v1 : Int) < v2)) (P (Value.bool true) H) (ldI .i64 H x2 0 (fun v3 => ldI .i64 H x3 0 (fun v4 => pif ((v3 : Int) == v4) (ldI .i64 H x2 1 (fun v5 => ldI .i64 H x3 1 (fun v6 => P (Value.bool (decide ((v5 : Int) < v6))) H))) (P (Value.bool false) H))))))
theorem q1 (P : PT) : QB Tryz.prog T0 24 o1 (ret P) k0 (B1 P) := fun _ _ _ _  => by kernel_rfl
abbrev k1 : Sk := [(0,.g [.i,.i]),(1,.g [.i,.i])]
noncomputable def o2 := ob Tryz.f146 [.l]
def B2 (P : PT) (x0a x0b x1a x1b : Int) (H : AHeap) : Prop :=
  newK H [(Value.int .i64 x0a), (Value.int .i64 x0b)] 78 (fun b1 H2 => newK H2 [(Value.int .i64 x1a), (Value.int .i64 x1b)] 78 (fun b3 H4 => B1 P b1 b3 H4))
theorem q2 (P : PT) : QB Tryz.prog T0 24 o2 (En 24 k0 (B1 P)) k1 (B2 P) := fun _ _ _ _ _ _  => by kernel_rfl
noncomputable def code : Code := (.seq (.region 0 ⟨o2⟩ false) (.seq (.region 1 ⟨o1⟩ false) .ret))
theorem body : Tryz.f146.body = some code := by kernel_rfl
theorem main (P : PT) : ∀ env H, (En 24 k1 (B2 P)) env H → AW Tryz.prog T0 code env H (mkQ (ret P) (fun _ _ _ => False) (ret P)) :=
  (r_seq (rB T0_ok (q2 P)) (r_seq (rB T0_ok (q1 P)) r_ret))
theorem ac (P : PT) (x0a x0b x1a x1b : Int) (H : AHeap) (h : B2 P x0a x0b x1a x1b H) : AC Tryz.prog T0 146 [(Value.agg ⟨[(Value.int .i64 x0a), (Value.int .i64 x0b)]⟩), (Value.agg ⟨[(Value.int .i64 x1a), (Value.int .i64 x1b)]⟩)] H P :=
  r_fn T0_ok (c := code) (n := 24) Tryz.func146 body (by kernel_rfl) (main P) (En_mk (x0a, x0b, x1a, x1b, ()) (by kernel_rfl) ⟨by kernel_rfl, by kernel_rfl, trivial⟩ h)

end F146
-- loop.example/g01329/impl.areAll[int64]
namespace F148
noncomputable def ret (P : PT) : EP := retE T0 9 Tryz.f148 P
abbrev k0 : Sk := [(0,.v),(3,.x)]
noncomputable def o1 := ob Tryz.f148 [.r,.l]
def B1 (P : PT) (x0 : Value) (x3 : Nat) (H : AHeap) : Prop :=
  AC Tryz.prog T0 189 [x0, (Value.func (.func 190) ⟨[]⟩ ⟨[(Value.pointer (some ⟨x3, 0, none⟩))]⟩)] H (fun v1 H2 => asB v1 (fun v3 => P (Value.bool (!v3)) H2))
theorem q1 (P : PT) : QB Tryz.prog T0 9 o1 (ret P) k0 (B1 P) := fun _ _ _ _  => by kernel_rfl
abbrev k1 : Sk := [(0,.v),(1,.v)]
noncomputable def o2 := ob Tryz.f148 [.l]
def B2 (P : PT) (x0 x1 : Value) (H : AHeap) : Prop :=
  pif (Value.oneCell' x1) (newK H [x1] 123 (fun b1 H2 => B1 P x0 b1 H2)) False
theorem q2 (P : PT) : QB Tryz.prog T0 9 o2 (En 9 k0 (B1 P)) k1 (B2 P) := fun _ _ _ _  => by kernel_rfl
noncomputable def code : Code := (.seq (.region 0 ⟨o2⟩ false) (.seq (.region 1 ⟨o1⟩ false) .ret))
theorem body : Tryz.f148.body = some code := by kernel_rfl
theorem main (P : PT) : ∀ env H, (En 9 k1 (B2 P)) env H → AW Tryz.prog T0 code env H (mkQ (ret P) (fun _ _ _ => False) (ret P)) :=
  (r_seq (rB T0_ok (q2 P)) (r_seq (rB T0_ok (q1 P)) r_ret))
theorem ac (P : PT) (x0 x1 : Value) (H : AHeap) (h : B2 P x0 x1 H) : AC Tryz.prog T0 148 [x0, x1] H P :=
  r_fn T0_ok (c := code) (n := 9) Tryz.func148 body (by kernel_rfl) (main P) (En_mk (x0, x1, ()) (by kernel_rfl) ⟨by kernel_rfl, by kernel_rfl, trivial⟩ h)

end F148
-- (loop.example/g01329/impl.Graph).isBond$1
namespace F149
noncomputable def ret (P : PT) : EP := retE T0 24 Tryz.f149 P
abbrev k0 : Sk := [(0,.i .i64),(1,.v),(2,.v)]
noncomputable def o1 := ob Tryz.f149 [.r,.l]
def B1 (P : PT) (x0 : Int) (x1 x2 : Value) (H : AHeap) : Prop :=
  asP x1 (fun b1 o2 => ld1 H b1 o2 (fun v3 => asP x2 (fun b4 o5 => ld1 H b4 (o5 + 1) (fun v6 => idxK v6 x0 2 (fun b7 o8 => ldI .i64 H b7 o8 (fun v9 => idxK v3 v9 1 (fun b10 o11 => ldI .i64 H b10 o11 (fun v12 => asP x1 (fun b13 o14 => ld1 H b13 o14 (fun v15 => asP x2 (fun b16 o17 => ld1 H b16 (o17 + 1) (fun v18 => idxK v18 x0 2 (fun b19 o20 => ldI .i64 H b19 (o20 + 1) (fun v21 => idxK v15 v21 1 (fun b22 o23 => ldI .i64 H b22 o23 (fun v24 => P (Value.bool ((v12 : Int) != v24)) H))))))))))))))))
theorem q1 (P : PT) : QD Tryz.prog T0 24 o1 [(0, false), (1, false), (2, false), (3, false), (4, false), (5, false), (6, false), (7, false), (8, false), (9, false), (10, false), (11, false), (12, false), (13, false), (14, false), (15, false), (16, false), (17, false), (18, false), (19, false)] (ret P) k0 (B1 P) := fun _ _ _ _ _  => by kernel_rfl
noncomputable def o2 := ob Tryz.f149 [.l]
def B2 (P : PT) (x0 : Int) (x1 x2 : Value) (H : AHeap) : Prop :=
  B1 P x0 x1 x2 H
theorem q2 (P : PT) : QB Tryz.prog T0 24 o2 (En 24 k0 (B1 P)) k0 (B2 P) := fun _ _ _ _ _  => by kernel_rfl
noncomputable def code : Code := (.seq (.region 0 ⟨o2⟩ false) (.seq (.region 1 ⟨o1⟩ true) .ret))
theorem body : Tryz.f149.body = some code := by kernel_rfl
theorem main (P : PT) : ∀ env H, (En 24 k0 (B2 P)) env H → AW Tryz.prog T0 code env H (mkQ (ret P) (fun _ _ _ => False) (ret P)) :=
  (r_seq (rB T0_ok (q2 P)) (r_seq (rD T0_ok mixed [(0, false), (1, false), (2, false), (3, false), (4, false), (5, false), (6, false), (7, false), (8, false), (9, false), (10, false), (11, false), (12, false), (13, false), (14, false), (15, false), (16, false), (17, false), (18, false), (19, false)] (by kernel_rfl) (q1 P)) r_ret))
theorem ac (P : PT) (x0 : Int) (x1 x2 : Value) (H : AHeap) (h : B2 P x0 x1 x2 H) : AC Tryz.prog T0 149 [(Value.int .i64 x0), x1, x2] H P :=
  r_fn T0_ok (c := code) (n := 24) Tryz.func149 body (by kernel_rfl) (main P) (En_mk (x0, x1, x2, ()) (by kernel_rfl) ⟨by kernel_rfl, by kernel_rfl, by kernel_rfl, trivial⟩ h)

end F149
-- loop.example/g01329/spec.l01DrawOf
namespace F150
noncomputable def ret (P : PT) : EP := retE T0 87 Tryz.f150 P
abbrev k0 : Sk := [(1,.i .i64),(4,.x),(12,.v)]
noncomputable def o1 := ob Tryz.f150 [.r,.r,.r,.r,.l]
def B1 (P : PT) (x1 : Int) (x4 : Nat) (x12 : Value) (H : AHeap) : Prop :=
  AC Tryz.prog T0 141 [(Value.int .i64 x1), x12] H (fun v1 H2 => agg2 v1 (fun v3 v4 => asI .i64 v3 (fun v5 => stK H2 x4 0 [(Value.int .i64 v5), v4] (fun H7 => ldI .i64 H7 x4 0 (fun v8 => ld1 H7 x4 1 (fun v9 => P (Value.agg ⟨[(Value.int .i64 v8), v9]⟩) H7))))))
theorem q1 (P : PT) : QB Tryz.prog T0 87 o1 (ret P) k0 (B1 P) := fun _ _ _ _ _  => by kernel_rfl
abbrev k1 : Sk := [(1,.i .i64),(4,.x),(12,.v),(13,.i .i64)]
noncomputable def o3 := ob Tryz.f150 [.r,.r,.r,.l,.r,.l,.l,.r,.r]
def B3 (P : PT) (N2 : NTy k1 Pr) (x1 : Int) (x4 : Nat) (x12 : Value) (x13 : Int) (H : AHeap) : Prop :=
  N2 x1 x4 x12 (IntKind.i64.wrap (x13 + 1)) H
theorem q3 (P : PT) (N2 : NTy k1 Pr) : QB Tryz.prog T0 87 o3 (En 87 k1 N2) k1 (B3 P N2) := fun _ _ _ _ _ _  => by kernel_rfl
noncomputable def o4 := ob Tryz.f150 [.r,.r,.r,.l,.r,.l,.l,.r,.l,.l,.r,.r,.l]
def B4 (P : PT) (N2 : NTy k1 Pr) (x1 : Int) (x4 : Nat) (x12 : Value) (x13 : Int) (H : AHeap) : Prop :=
  newK H [(Value.int .i64 x13), (Value.int .i64 (IntKind.i64.wrap (x13 + (IntKind.i64.wrap (Int.tdiv x1 2)))))] 78 (fun b1 H2 => apK T0 78 H2 x12 (Value.slice (some ⟨b1, 0, none⟩) 1 (1 + 1)) (fun v3 H4 => B3 P N2 x1 x4 v3 x13 H4))
theorem q4 (P : PT) (N2 : NTy k1 Pr) : QB Tryz.prog T0 87 o4 (En 87 k1 (B3 P N2)) k1 (B4 P N2) := fun _ _ _ _ _ _  => by kernel_rfl
noncomputable def o5 := ob Tryz.f150 [.r,.r,.r,.l,.r,.l,.l,.r,.l,.l,.r,.l]
def B5 (P : PT) (N2 : NTy k1 Pr) (x1 : Int) (x4 : Nat) (x12 : Value) (x13 : Int) (H : AHeap) : Prop :=
  pif (decide ((x13 : Int) < (IntKind.i64.wrap (Int.tdiv x1 2)))) (B4 P N2 x1 x4 x12 x13 H) (B3 P N2 x1 x4 x12 x13 H)
theorem q5 (P : PT) (N2 : NTy k1 Pr) : QB Tryz.prog T0 87 o5 (cnd 74 (En 87 k1 (B4 P N2)) (En 87 k1 (B3 P N2))) k1 (B5 P N2) := fun _ _ _ _ _ _  => by kernel_rfl
noncomputable def o6 := ob Tryz.f150 [.r,.r,.r,.l,.r,.l,.l,.r,.l,.l,.l]
def B6 (P : PT) (N2 : NTy k1 Pr) (x1 : Int) (x4 : Nat) (x12 : Value) (x13 : Int) (H : AHeap) : Prop :=
  nzK x1 (newK H [(Value.int .i64 x13), (Value.int .i64 (Int.tmod (IntKind.i64.wrap (x13 + 1)) x1))] 78 (fun b1 H2 => apK T0 78 H2 x12 (Value.slice (some ⟨b1, 0, none⟩) 1 (1 + 1)) (fun v3 H4 => B5 P N2 x1 x4 v3 x13 H4)))
theorem q6 (P : PT) (N2 : NTy k1 Pr) : QB Tryz.prog T0 87 o6 (En 87 k1 (B5 P N2)) k1 (B6 P N2) := fun _ _ _ _ _ _  => by kernel_rfl
noncomputable def o7 := ob Tryz.f150 [.r,.r,.r,.l,.r,.l,.l,.l,.l]
def B7 (P : PT) (N2 : NTy k1 Pr) (x1 : Int) (x4 : Nat) (x12 : Value) (x13 : Int) (H : AHeap) : Prop :=
  pif (decide ((x13 : Int) < x1)) (B6 P N2 x1 x4 x12 x13 H) (B1 P x1 x4 x12 H)
theorem q7 (P : PT) (N2 : NTy k1 Pr) : QB Tryz.prog T0 87 o7 (cnd 59 (En 87 k1 (B6 P N2)) (En 87 k0 (B1 P))) k1 (B7 P N2) := fun _ _ _ _ _ _  => by kernel_rfl
def L2 (P : PT) (x1 : Int) (x4 : Nat) (x12 : Value) (x13 : Int) (H : AHeap) : Prop :=
  ∃ (I : NTy k1 Pr) (μ : NTy k1 (AHeap → Nat)), I x1 x4 x12 x13 H ∧ ∀ y1 y4 y12 y13 G, I y1 y4 y12 y13 G → B7 P (fun z1 z4 z12 z13 G' => I z1 z4 z12 z13 G' ∧ μ z1 z4 z12 z13 G' < μ y1 y4 y12 y13 G) y1 y4 y12 y13 G
theorem l2 (P : PT) : LQ k1 (L2 P) (B7 P) := fun ⟨_,_,_,_,_⟩ _ ⟨I, μ, h0, hI⟩ => ⟨apT _ I, apT _ μ, h0, fun ⟨_,_,_,_,_⟩ _ h => hI _ _ _ _ _  h⟩
noncomputable def o8 := ob Tryz.f150 [.r,.r,.r,.l,.l]
def B8 (P : PT) (x1 : Int) (x4 : Nat) (x12 : Value) (H : AHeap) : Prop :=
  L2 P x1 x4 x12 0 H
theorem q8 (P : PT) : QB Tryz.prog T0 87 o8 (En 87 k1 (L2 P)) k0 (B8 P) := fun _ _ _ _ _  => by kernel_rfl
abbrev k2 : Sk := [(1,.i .i64),(4,.x)]
noncomputable def o9 := ob Tryz.f150 [.r,.r,.l]
def B9 (P : PT) (x1 : Int) (x4 : Nat) (H : AHeap) : Prop :=
  newK H [] 78 (fun b1 H2 => B8 P x1 x4 (Value.slice (some ⟨b1, 0, none⟩) 0 (0 + 1)) H2)
theorem q9 (P : PT) : QB Tryz.prog T0 87 o9 (En 87 k0 (B8 P)) k2 (B9 P) := fun _ _ _ _  => by kernel_rfl
abbrev k3 : Sk := [(0,.v),(1,.i .i64),(4,.x),(5,.i .i64)]
noncomputable def o11 := ob Tryz.f150 [.r,.l,.r,.l,.l,.r,.r]
def B11 (P : PT) (N10 : NTy k3 Pr) (x0 : Value) (x1 : Int) (x4 : Nat) (x5 : Int) (H : AHeap) : Prop :=
  N10 x0 x1 x4 (IntKind.i64.wrap (x5 + 1)) H
theorem q11 (P : PT) (N10 : NTy k3 Pr) : QB Tryz.prog T0 87 o11 (En 87 k3 N10) k3 (B11 P N10) := fun _ _ _ _ _ _  => by kernel_rfl
abbrev k4 : Sk := [(1,.i .i64),(4,.x),(7,.v)]
noncomputable def o12 := ob Tryz.f150 [.r,.l,.r,.l,.l,.r,.l,.l,.r,.r,.r,.l,.l]
def B12 (P : PT) (N10 : NTy k3 Pr) (x1 : Int) (x4 : Nat) (x7 : Value) (H : AHeap) : Prop :=
  AC Tryz.prog T0 141 [(Value.int .i64 x1), x7] H (fun v1 H2 => agg2 v1 (fun v3 v4 => asI .i64 v3 (fun v5 => stK H2 x4 0 [(Value.int .i64 v5), v4] (fun H7 => ldI .i64 H7 x4 0 (fun v8 => ld1 H7 x4 1 (fun v9 => P (Value.agg ⟨[(Value.int .i64 v8), v9]⟩) H7))))))
theorem q12 (P : PT) (N10 : NTy k3 Pr) : QB Tryz.prog T0 87 o12 (ret P) k4 (B12 P N10) := fun _ _ _ _ _  => by kernel_rfl
abbrev k5 : Sk := [(0,.v),(1,.i .i64),(4,.x),(5,.i .i64),(7,.v),(8,.b)]
noncomputable def o13 := ob Tryz.f150 [.r,.l,.r,.l,.l,.r,.l,.l,.r,.r,.l]
def B13 (P : PT) (N10 : NTy k3 Pr) (x0 : Value) (x1 : Int) (x4 : Nat) (x5 : Int) (x7 : Value) (x8 : Bool) (H : AHeap) : Prop :=
  pif x8 (B12 P N10 x1 x4 x7 H) (B11 P N10 x0 x1 x4 x5 H)
theorem q13 (P : PT) (N10 : NTy k3 Pr) : QB Tryz.prog T0 87 o13 (cnd 52 (En 87 k4 (B12 P N10)) (En 87 k3 (B11 P N10))) k5 (B13 P N10) := fun _ _ _ _ _ _ _ _  => by kernel_rfl
abbrev k6 : Sk := [(0,.v),(1,.i .i64),(4,.x),(5,.i .i64),(6,.v),(7,.v),(8,.b),(9,.i .i64)]
noncomputable def o15 := ob Tryz.f150 [.r,.l,.r,.l,.l,.r,.l,.l,.r,.l,.r,.l,.l,.r,.r]
def B15 (P : PT) (N10 : NTy k3 Pr) (N14 : NTy k6 Pr) (x0 : Value) (x1 : Int) (x4 : Nat) (x5 : Int) (x6 x7 : Value) (x8 : Bool) (x9 : Int) (H : AHeap) : Prop :=
  N14 x0 x1 x4 x5 x6 x7 x8 (IntKind.i64.wrap (x9 + 2)) H
theorem q15 (P : PT) (N10 : NTy k3 Pr) (N14 : NTy k6 Pr) : QB Tryz.prog T0 87 o15 (En 87 k6 N14) k6 (B15 P N10 N14) := fun _ _ _ _ _ _ _ _ _ _  => by kernel_rfl
abbrev k7 : Sk := [(0,.v),(1,.i .i64),(4,.x),(5,.i .i64),(6,.v),(7,.v),(8,.b),(9,.i .i64),(10,.i .i64),(11,.i .i64)]
noncomputable def o16 := ob Tryz.f150 [.r,.l,.r,.l,.l,.r,.l,.l,.r,.l,.r,.l,.l,.r,.l,.l,.r,.r]
def B16 (P : PT) (N10 : NTy k3 Pr) (N14 : NTy k6 Pr) (x0 : Value) (x1 : Int) (x4 : Nat) (x5 : Int) (x6 x7 : Value) (x8 : Bool) (x9 x10 x11 : Int) (H : AHeap) : Prop :=
  pif x8 (B15 P N10 N14 x0 x1 x4 x5 x6 x7 ((x10 : Int) != x11) x9 H) (B15 P N10 N14 x0 x1 x4 x5 x6 x7 false x9 H)
theorem q16 (P : PT) (N10 : NTy k3 Pr) (N14 : NTy k6 Pr) : QB Tryz.prog T0 87 o16 (En 87 k6 (B15 P N10 N14)) k7 (B16 P N10 N14) := fun _ _ _ _ _ _ _ _ _ _ _ _  => by kernel_rfl
noncomputable def o17 := ob Tryz.f150 [.r,.l,.r,.l,.l,.r,.l,.l,.r,.l,.r,.l,.l,.r,.l,.l,.r,.l]
def B17 (P : PT) (N10 : NTy k3 Pr) (N14 : NTy k6 Pr) (x0 : Value) (x1 : Int) (x4 : Nat) (x5 : Int) (x6 x7 : Value) (x8 : Bool) (x9 x10 x11 : Int) (H : AHeap) : Prop :=
  newK H [(Value.int .i64 x10), (Value.int .i64 x11)] 78 (fun b1 H2 => apK T0 78 H2 x7 (Value.slice (some ⟨b1, 0, none⟩) 1 (1 + 1)) (fun v3 H4 => B16 P N10 N14 x0 x1 x4 x5 x6 v3 x8 x9 x10 x11 H4))
theorem q17 (P : PT) (N10 : NTy k3 Pr) (N14 : NTy k6 Pr) : QB Tryz.prog T0 87 o17 (En 87 k7 (B16 P N10 N14)) k7 (B17 P N10 N14) := fun _ _ _ _ _ _ _ _ _ _ _ _  => by kernel_rfl
noncomputable def o18 := ob Tryz.f150 [.r,.l,.r,.l,.l,.r,.l,.l,.r,.l,.r,.l,.l,.r,.l,.l,.l]
def B18 (P : PT) (N10 : NTy k3 Pr) (N14 : NTy k6 Pr) (x0 : Value) (x1 : Int) (x4 : Nat) (x5 : Int) (x6 x7 : Value) (x8 : Bool) (x9 : Int) (H : AHeap) : Prop :=
  idxK x6 x9 1 (fun b1 o2 => ldI .i64 H b1 o2 (fun v3 => idxK x6 (IntKind.i64.wrap (x9 + 1)) 1 (fun b4 o5 => ldI .i64 H b4 o5 (fun v6 => B17 P N10 N14 x0 x1 x4 x5 x6 x7 x8 x9 (IntKind.i64.wrap (Int.tdiv v3 3)) (IntKind.i64.wrap (Int.tdiv v6 3)) H))))
theorem q18 (P : PT) (N10 : NTy k3 Pr) (N14 : NTy k6 Pr) : QD Tryz.prog T0 87 o18 [(0, false), (1, false), (2, false), (3, false), (4, false), (5, false), (6, false), (7, false), (8, false), (9, false), (10, false), (11, false), (12, false)] (En 87 k7 (B17 P N10 N14)) k6 (B18 P N10 N14) := fun _ _ _ _ _ _ _ _ _ _  => by kernel_rfl
noncomputable def o19 := ob Tryz.f150 [.r,.l,.r,.l,.l,.r,.l,.l,.r,.l,.r,.l,.l,.l,.l]
def B19 (P : PT) (N10 : NTy k3 Pr) (N14 : NTy k6 Pr) (x0 : Value) (x1 : Int) (x4 : Nat) (x5 : Int) (x6 x7 : Value) (x8 : Bool) (x9 : Int) (H : AHeap) : Prop :=
  lenK x6 (fun n1 => pif (decide ((x9 : Int) < (n1 : Int))) (B18 P N10 N14 x0 x1 x4 x5 x6 x7 x8 x9 H) (B13 P N10 x0 x1 x4 x5 x7 x8 H))
theorem q19 (P : PT) (N10 : NTy k3 Pr) (N14 : NTy k6 Pr) : QB Tryz.prog T0 87 o19 (cnd 26 (En 87 k6 (B18 P N10 N14)) (En 87 k5 (B13 P N10))) k6 (B19 P N10 N14) := fun _ _ _ _ _ _ _ _ _ _  => by kernel_rfl
def L14 (P : PT) (N10 : NTy k3 Pr) (x0 : Value) (x1 : Int) (x4 : Nat) (x5 : Int) (x6 x7 : Value) (x8 : Bool) (x9 : Int) (H : AHeap) : Prop :=
  ∃ (I : NTy k6 Pr) (μ : NTy k6 (AHeap → Nat)), I x0 x1 x4 x5 x6 x7 x8 x9 H ∧ ∀ y0 y1 y4 y5 y6 y7 y8 y9 G, I y0 y1 y4 y5 y6 y7 y8 y9 G → B19 P N10 (fun z0 z1 z4 z5 z6 z7 z8 z9 G' => I z0 z1 z4 z5 z6 z7 z8 z9 G' ∧ μ z0 z1 z4 z5 z6 z7 z8 z9 G' < μ y0 y1 y4 y5 y6 y7 y8 y9 G) y0 y1 y4 y5 y6 y7 y8 y9 G
theorem l14 (P : PT) (N10 : NTy k3 Pr) : LQ k6 (L14 P N10) (B19 P N10) := fun ⟨_,_,_,_,_,_,_,_,_⟩ _ ⟨I, μ, h0, hI⟩ => ⟨apT _ I, apT _ μ, h0, fun ⟨_,_,_,_,_,_,_,_,_⟩ _ h => hI _ _ _ _ _ _ _ _ _  h⟩
abbrev k8 : Sk := [(0,.v),(1,.i .i64),(4,.x),(5,.i .i64),(6,.v),(7,.v),(8,.b)]
noncomputable def o20 := ob Tryz.f150 [.r,.l,.r,.l,.l,.r,.l,.l,.r,.l,.l]
def B20 (P : PT) (N10 : NTy k3 Pr) (x0 : Value) (x1 : Int) (x4 : Nat) (x5 : Int) (x6 x7 : Value) (x8 : Bool) (H : AHeap) : Prop :=
  L14 P N10 x0 x1 x4 x5 x6 x7 x8 0 H
theorem q20 (P : PT) (N10 : NTy k3 Pr) : QB Tryz.prog T0 87 o20 (En 87 k6 (L14 P N10)) k8 (B20 P N10) := fun _ _ _ _ _ _ _ _ _  => by kernel_rfl
noncomputable def o21 := ob Tryz.f150 [.r,.l,.r,.l,.l,.r,.l,.l,.l]
def B21 (P : PT) (N10 : NTy k3 Pr) (x0 : Value) (x1 : Int) (x4 : Nat) (x5 : Int) (H : AHeap) : Prop :=
  AC Tryz.prog T0 70 [x0, (Value.int .i64 (IntKind.i64.wrap (3 * x1)))] H (fun v1 H2 => newK H2 [] 78 (fun b4 H5 => B20 P N10 x0 x1 x4 x5 v1 (Value.slice (some ⟨b4, 0, none⟩) 0 (0 + 1)) true H5))
theorem q21 (P : PT) (N10 : NTy k3 Pr) : QB Tryz.prog T0 87 o21 (En 87 k8 (B20 P N10)) k3 (B21 P N10) := fun _ _ _ _ _ _  => by kernel_rfl
noncomputable def o22 := ob Tryz.f150 [.r,.l,.r,.l,.l,.l,.l]
def B22 (P : PT) (N10 : NTy k3 Pr) (x0 : Value) (x1 : Int) (x4 : Nat) (x5 : Int) (H : AHeap) : Prop :=
  pif (decide ((x5 : Int) < 20)) (B21 P N10 x0 x1 x4 x5 H) (B9 P x1 x4 H)
theorem q22 (P : PT) (N10 : NTy k3 Pr) : QB Tryz.prog T0 87 o22 (cnd 15 (En 87 k3 (B21 P N10)) (En 87 k2 (B9 P))) k3 (B22 P N10) := fun _ _ _ _ _ _  => by kernel_rfl
def L10 (P : PT) (x0 : Value) (x1 : Int) (x4 : Nat) (x5 : Int) (H : AHeap) : Prop :=
  ∃ (I : NTy k3 Pr) (μ : NTy k3 (AHeap → Nat)), I x0 x1 x4 x5 H ∧ ∀ y0 y1 y4 y5 G, I y0 y1 y4 y5 G → B22 P (fun z0 z1 z4 z5 G' => I z0 z1 z4 z5 G' ∧ μ z0 z1 z4 z5 G' < μ y0 y1 y4 y5 G) y0 y1 y4 y5 G
theorem l10 (P : PT) : LQ k3 (L10 P) (B22 P) := fun ⟨_,_,_,_,_⟩ _ ⟨I, μ, h0, hI⟩ => ⟨apT _ I, apT _ μ, h0, fun ⟨_,_,_,_,_⟩ _ h => hI _ _ _ _ _  h⟩
abbrev k9 : Sk := [(0,.v),(1,.i .i64),(4,.x)]
noncomputable def o23 := ob Tryz.f150 [.r,.l,.l]
def B23 (P : PT) (x0 : Value) (x1 : Int) (x4 : Nat) (H : AHeap) : Prop :=
  L10 P x0 x1 x4 0 H
theorem q23 (P : PT) : QB Tryz.prog T0 87 o23 (En 87 k3 (L10 P)) k9 (B23 P) := fun _ _ _ _ _  => by kernel_rfl
abbrev k10 : Sk := [(0,.v),(1,.i .i64)]
noncomputable def o24 := ob Tryz.f150 [.l]
def B24 (P : PT) (x0 : Value) (x1 : Int) (H : AHeap) : Prop :=
  newK H [(Value.int .i64 0), (Value.slice none 0 0)] 26 (fun b1 H2 => B23 P x0 x1 b1 H2)
theorem q24 (P : PT) : QB Tryz.prog T0 87 o24 (En 87 k9 (B23 P)) k10 (B24 P) := fun _ _ _ _  => by kernel_rfl
noncomputable def code : Code := (.seq (.region 0 ⟨o24⟩ false) (.seq (.seq (.region 1 ⟨o23⟩ false) (.block 0 (.loop (.seq (.seq (.region 2 ⟨o22⟩ false) (.cond (.tmp 15) .skip (.exit 0))) (.seq (.block 1 (.seq (.region 4 ⟨o21⟩ false) (.seq (.seq (.region 5 ⟨o20⟩ false) (.block 2 (.loop (.seq (.seq (.region 6 ⟨o19⟩ false) (.cond (.tmp 26) .skip (.exit 2))) (.seq (.block 3 (.seq (.region 8 ⟨o18⟩ true) (.seq (.region 9 ⟨o17⟩ false) (.region 10 ⟨o16⟩ false)))) (.region 7 ⟨o15⟩ false)))))) (.seq (.region 11 ⟨o13⟩ false) (.cond (.tmp 52) (.seq (.region 12 ⟨o12⟩ false) .ret) .skip))))) (.region 3 ⟨o11⟩ false)))))) (.seq (.region 13 ⟨o9⟩ false) (.seq (.seq (.region 14 ⟨o8⟩ false) (.block 4 (.loop (.seq (.seq (.region 15 ⟨o7⟩ false) (.cond (.tmp 59) .skip (.exit 4))) (.seq (.block 5 (.seq (.region 17 ⟨o6⟩ false) (.seq (.region 18 ⟨o5⟩ false) (.cond (.tmp 74) (.region 19 ⟨o4⟩ false) .skip)))) (.region 16 ⟨o3⟩ false)))))) (.seq (.region 20 ⟨o1⟩ false) .ret)))))
theorem body : Tryz.f150.body = some code := by kernel_rfl
theorem main (P : PT) : ∀ env H, (En 87 k10 (B24 P)) env H → AW Tryz.prog T0 code env H (mkQ (ret P) (fun _ _ _ => False) (ret P)) :=
  (r_seq (rB T0_ok (q24 P)) (r_seq (r_seq (rB T0_ok (q23 P)) (r_block (rL (l10 P) (fun N10 => (r_seq (r_seq (rB T0_ok (q22 P N10)) (r_cond rfl r_skip (r_exit (fun _ _ h => h)))) (r_seq (r_block (r_seq (rB T0_ok (q21 P N10)) (r_seq (r_seq (rB T0_ok (q20 P N10)) (r_block (rL (l14 P N10) (fun N14 => (r_seq (r_seq (rB T0_ok (q19 P N10 N14)) (r_cond rfl r_skip (r_exit (fun _ _ h => h)))) (r_seq (r_block (r_seq (rD T0_ok mixed [(0, false), (1, false), (2, false), (3, false), (4, false), (5, false), (6, false), (7, false), (8, false), (9, false), (10, false), (11, false), (12, false)] (by kernel_rfl) (q18 P N10 N14)) (r_seq (rB T0_ok (q17 P N10 N14)) (rB T0_ok (q16 P N10 N14))))) (rB T0_ok (q15 P N10 N14)))))))) (r_seq (rB T0_ok (q13 P N10)) (r_cond rfl (r_seq (rB T0_ok (q12 P N10)) r_ret) r_skip))))) (rB T0_ok (q11 P N10)))))))) (r_seq (rB T0_ok (q9 P)) (r_seq (r_seq (rB T0_ok (q8 P)) (r_block (rL (l2 P) (fun N2 => (r_seq (r_seq (rB T0_ok (q7 P N2)) (r_cond rfl r_skip (r_exit (fun _ _ h => h)))) (r_seq (r_block (r_seq (rB T0_ok (q6 P N2)) (r_seq (rB T0_ok (q5 P N2)) (r_cond rfl (rB T0_ok (q4 P N2)) r_skip)))) (rB T0_ok (q3 P N2)))))))) (r_seq (rB T0_ok (q1 P)) r_ret)))))
theorem ac (P : PT) (x0 : Value) (x1 : Int) (H : AHeap) (h : B24 P x0 x1 H) : AC Tryz.prog T0 150 [x0, (Value.int .i64 x1)] H P :=
  r_fn T0_ok (c := code) (n := 87) Tryz.func150 body (by kernel_rfl) (main P) (En_mk (x0, x1, ()) (by kernel_rfl) ⟨by kernel_rfl, by kernel_rfl, trivial⟩ h)

end F150
-- loop.example/g01329/spec.l01Names
namespace F152
noncomputable def ret (P : PT) : EP := retE T0 2 Tryz.f152 P
abbrev k0 : Sk := []
noncomputable def o1 := ob Tryz.f152 [.r,.l]
def B1 (P : PT) (H : AHeap) : Prop :=
  newK H [(Value.string (⟨#[116, 104, 101, 116, 97]⟩)), (Value.string (⟨#[107, 52]⟩)), (Value.string (⟨#[107, 51, 51]⟩)), (Value.string (⟨#[112, 114, 105, 115, 109]⟩)), (Value.string (⟨#[99, 117, 98, 101]⟩)), (Value.string (⟨#[112, 101, 116, 101, 114, 115, 101, 110]⟩)), (Value.string (⟨#[116, 105, 101, 116, 122, 101]⟩)), (Value.string (⟨#[102, 108, 111, 119, 101, 114, 53]⟩)), (Value.string (⟨#[98, 114, 105, 100, 103, 101]⟩))] 9 (fun b1 H2 => P (Value.slice (some ⟨b1, 0, none⟩) 9 (9 + 1)) H2)
theorem q1 (P : PT) : QB Tryz.prog T0 2 o1 (ret P) k0 (B1 P) := fun _ _  => by kernel_rfl
noncomputable def o2 := ob Tryz.f152 [.l]
def B2 (P : PT) (H : AHeap) : Prop :=
  B1 P H
theorem q2 (P : PT) : QB Tryz.prog T0 2 o2 (En 2 k0 (B1 P)) k0 (B2 P) := fun _ _  => by kernel_rfl
noncomputable def code : Code := (.seq (.region 0 ⟨o2⟩ false) (.seq (.region 1 ⟨o1⟩ false) .ret))
theorem body : Tryz.f152.body = some code := by kernel_rfl
theorem main (P : PT) : ∀ env H, (En 2 k0 (B2 P)) env H → AW Tryz.prog T0 code env H (mkQ (ret P) (fun _ _ _ => False) (ret P)) :=
  (r_seq (rB T0_ok (q2 P)) (r_seq (rB T0_ok (q1 P)) r_ret))
theorem ac (P : PT) (H : AHeap) (h : B2 P H) : AC Tryz.prog T0 152 [] H P :=
  r_fn T0_ok (c := code) (n := 2) Tryz.func152 body (by kernel_rfl) (main P) (En_mk (()) (by kernel_rfl) trivial h)

end F152
-- loop.example/g01329/spec.l01Beside
namespace F153
noncomputable def ret (P : PT) : EP := retE T0 47 Tryz.f153 P
abbrev k0 : Sk := [(2,.x),(3,.x),(4,.x),(5,.v)]
noncomputable def o1 := ob Tryz.f153 [.r,.r,.r,.l]
def B1 (P : PT) (x2 x3 x4 : Nat) (x5 : Value) (H : AHeap) : Prop :=
  ldI .i64 H x2 0 (fun v1 => ldI .i64 H x3 0 (fun v2 => AC Tryz.prog T0 141 [(Value.int .i64 (IntKind.i64.wrap (v1 + v2))), x5] H (fun v3 H4 => agg2 v3 (fun v5 v6 => asI .i64 v5 (fun v7 => stK H4 x4 0 [(Value.int .i64 v7), v6] (fun H9 => ldI .i64 H9 x4 0 (fun v10 => ld1 H9 x4 1 (fun v11 => P (Value.agg ⟨[(Value.int .i64 v10), v11]⟩) H9))))))))
theorem q1 (P : PT) : QB Tryz.prog T0 47 o1 (ret P) k0 (B1 P) := fun _ _ _ _ _ _  => by kernel_rfl
abbrev k1 : Sk := [(2,.x),(3,.x),(4,.x),(5,.v),(6,.i .i64)]
noncomputable def o3 := ob Tryz.f153 [.r,.r,.l,.r,.l,.l,.r,.r]
def B3 (P : PT) (N2 : NTy k1 Pr) (x2 x3 x4 : Nat) (x5 : Value) (x6 : Int) (H : AHeap) : Prop :=
  N2 x2 x3 x4 x5 (IntKind.i64.wrap (x6 + 1)) H
theorem q3 (P : PT) (N2 : NTy k1 Pr) : QB Tryz.prog T0 47 o3 (En 47 k1 N2) k1 (B3 P N2) := fun _ _ _ _ _ _ _  => by kernel_rfl
noncomputable def o4 := ob Tryz.f153 [.r,.r,.l,.r,.l,.l,.r,.l,.l]
def B4 (P : PT) (N2 : NTy k1 Pr) (x2 x3 x4 : Nat) (x5 : Value) (x6 : Int) (H : AHeap) : Prop :=
  ld1 H x3 1 (fun v1 => idxK v1 x6 2 (fun b2 o3 => ldI .i64 H b2 o3 (fun v4 => ldI .i64 H x2 0 (fun v5 => ld1 H x3 1 (fun v6 => idxK v6 x6 2 (fun b7 o8 => ldI .i64 H b7 (o8 + 1) (fun v9 => ldI .i64 H x2 0 (fun v10 => newK H [(Value.int .i64 (IntKind.i64.wrap (v4 + v5))), (Value.int .i64 (IntKind.i64.wrap (v9 + v10)))] 78 (fun b11 H12 => apK T0 78 H12 x5 (Value.slice (some ⟨b11, 0, none⟩) 1 (1 + 1)) (fun v13 H14 => B3 P N2 x2 x3 x4 v13 x6 H14))))))))))
theorem q4 (P : PT) (N2 : NTy k1 Pr) : QD Tryz.prog T0 47 o4 [(0, false), (1, false), (2, false), (3, false), (4, false), (5, false), (6, false), (7, false), (8, false), (9, false), (10, false), (11, false), (12, false), (13, false), (14, false), (15, false), (16, false), (17, false), (18, false), (19, false), (20, false), (21, false), (22, false)] (En 47 k1 (B3 P N2)) k1 (B4 P N2) := fun _ _ _ _ _ _ _  => by kernel_rfl
noncomputable def o5 := ob Tryz.f153 [.r,.r,.l,.r,.l,.l,.l,.l]
def B5 (P : PT) (N2 : NTy k1 Pr) (x2 x3 x4 : Nat) (x5 : Value) (x6 : Int) (H : AHeap) : Prop :=
  ld1 H x3 1 (fun v1 => lenK v1 (fun n2 => pif (decide ((x6 : Int) < (n2 : Int))) (B4 P N2 x2 x3 x4 x5 x6 H) (B1 P x2 x3 x4 x5 H)))
theorem q5 (P : PT) (N2 : NTy k1 Pr) : QB Tryz.prog T0 47 o5 (cnd 15 (En 47 k1 (B4 P N2)) (En 47 k0 (B1 P))) k1 (B5 P N2) := fun _ _ _ _ _ _ _  => by kernel_rfl
def L2 (P : PT) (x2 x3 x4 : Nat) (x5 : Value) (x6 : Int) (H : AHeap) : Prop :=
  ∃ (I : NTy k1 Pr) (μ : NTy k1 (AHeap → Nat)), I x2 x3 x4 x5 x6 H ∧ ∀ y2 y3 y4 y5 y6 G, I y2 y3 y4 y5 y6 G → B5 P (fun z2 z3 z4 z5 z6 G' => I z2 z3 z4 z5 z6 G' ∧ μ z2 z3 z4 z5 z6 G' < μ y2 y3 y4 y5 y6 G) y2 y3 y4 y5 y6 G
theorem l2 (P : PT) : LQ k1 (L2 P) (B5 P) := fun ⟨_,_,_,_,_,_⟩ _ ⟨I, μ, h0, hI⟩ => ⟨apT _ I, apT _ μ, h0, fun ⟨_,_,_,_,_,_⟩ _ h => hI _ _ _ _ _ _  h⟩
noncomputable def o6 := ob Tryz.f153 [.r,.r,.l,.l]
def B6 (P : PT) (x2 x3 x4 : Nat) (x5 : Value) (H : AHeap) : Prop :=
  L2 P x2 x3 x4 x5 0 H
theorem q6 (P : PT) : QB Tryz.prog T0 47 o6 (En 47 k1 (L2 P)) k0 (B6 P) := fun _ _ _ _ _ _  => by kernel_rfl
abbrev k2 : Sk := [(2,.x),(3,.x),(4,.x)]
noncomputable def o7 := ob Tryz.f153 [.r,.l]
def B7 (P : PT) (x2 x3 x4 : Nat) (H : AHeap) : Prop :=
  newK H [] 78 (fun b1 H2 => ld1 H2 x2 1 (fun v3 => apK T0 78 H2 (Value.slice (some ⟨b1, 0, none⟩) 0 (0 + 1)) v3 (fun v4 H5 => B6 P x2 x3 x4 v4 H5)))
theorem q7 (P : PT) : QB Tryz.prog T0 47 o7 (En 47 k0 (B6 P)) k2 (B7 P) := fun _ _ _ _ _  => by kernel_rfl
abbrev k3 : Sk := [(0,.g [.i,.v]),(1,.g [.i,.v])]
noncomputable def o8 := ob Tryz.f153 [.l]
def B8 (P : PT) (x0a : Int) (x0b : Value) (x1a : Int) (x1b : Value) (H : AHeap) : Prop :=
  newK H [(Value.int .i64 x0a), x0b] 26 (fun b1 H2 => newK H2 [(Value.int .i64 x1a), x1b] 26 (fun b3 H4 => newK H4 [(Value.int .i64 0), (Value.slice none 0 0)] 26 (fun b5 H6 => B7 P b1 b3 b5 H6)))
theorem q8 (P : PT) : QB Tryz.prog T0 47 o8 (En 47 k2 (B7 P)) k3 (B8 P) := fun _ _ _ _ _ _  => by kernel_rfl
noncomputable def code : Code := (.seq (.region 0 ⟨o8⟩ false) (.seq (.region 1 ⟨o7⟩ false) (.seq (.seq (.region 2 ⟨o6⟩ false) (.block 0 (.loop (.seq (.seq (.region 3 ⟨o5⟩ false) (.cond (.tmp 15) .skip (.exit 0))) (.seq (.block 1 (.region 5 ⟨o4⟩ true)) (.region 4 ⟨o3⟩ false)))))) (.seq (.region 6 ⟨o1⟩ false) .ret))))
theorem body : Tryz.f153.body = some code := by kernel_rfl
theorem main (P : PT) : ∀ env H, (En 47 k3 (B8 P)) env H → AW Tryz.prog T0 code env H (mkQ (ret P) (fun _ _ _ => False) (ret P)) :=
  (r_seq (rB T0_ok (q8 P)) (r_seq (rB T0_ok (q7 P)) (r_seq (r_seq (rB T0_ok (q6 P)) (r_block (rL (l2 P) (fun N2 => (r_seq (r_seq (rB T0_ok (q5 P N2)) (r_cond rfl r_skip (r_exit (fun _ _ h => h)))) (r_seq (r_block (rD T0_ok mixed [(0, false), (1, false), (2, false), (3, false), (4, false), (5, false), (6, false), (7, false), (8, false), (9, false), (10, false), (11, false), (12, false), (13, false), (14, false), (15, false), (16, false), (17, false), (18, false), (19, false), (20, false), (21, false), (22, false)] (by kernel_rfl) (q4 P N2))) (rB T0_ok (q3 P N2)))))))) (r_seq (rB T0_ok (q1 P)) r_ret))))
theorem ac (P : PT) (x0a : Int) (x0b : Value) (x1a : Int) (x1b : Value) (H : AHeap) (h : B8 P x0a x0b x1a x1b H) : AC Tryz.prog T0 153 [(Value.agg ⟨[(Value.int .i64 x0a), x0b]⟩), (Value.agg ⟨[(Value.int .i64 x1a), x1b]⟩)] H P :=
  r_fn T0_ok (c := code) (n := 47) Tryz.func153 body (by kernel_rfl) (main P) (En_mk (x0a, x0b, x1a, x1b, ()) (by kernel_rfl) ⟨by kernel_rfl, by kernel_rfl, trivial⟩ h)

end F153
-- loop.example/g01329/spec.l01Far
namespace F154
noncomputable def ret (P : PT) : EP := retE T0 88 Tryz.f154 P
abbrev k0 : Sk := [(7,.v)]
noncomputable def o1 := ob Tryz.f154 [.r,.r,.r,.r,.r,.r,.l]
def B1 (P : PT) (x7 : Value) (H : AHeap) : Prop :=
  P x7 H
theorem q1 (P : PT) : QB Tryz.prog T0 88 o1 (ret P) k0 (B1 P) := fun _ _ _  => by kernel_rfl
abbrev k1 : Sk := [(2,.i .i64),(3,.x),(7,.v),(9,.v),(10,.i .i64)]
noncomputable def o3 := ob Tryz.f154 [.r,.r,.r,.r,.r,.l,.r,.l,.l,.r,.r]
def B3 (P : PT) (N2 : NTy k1 Pr) (x2 : Int) (x3 : Nat) (x7 x9 : Value) (x10 : Int) (H : AHeap) : Prop :=
  N2 x2 x3 x7 x9 (IntKind.i64.wrap (x10 + 1)) H
theorem q3 (P : PT) (N2 : NTy k1 Pr) : QB Tryz.prog T0 88 o3 (En 88 k1 N2) k1 (B3 P N2) := fun _ _ _ _ _ _ _  => by kernel_rfl
abbrev k2 : Sk := [(2,.i .i64),(3,.x),(7,.v),(9,.v),(10,.i .i64),(11,.v),(12,.i .i64)]
noncomputable def o5 := ob Tryz.f154 [.r,.r,.r,.r,.r,.l,.r,.l,.l,.r,.l,.l,.r,.r,.l,.l,.r,.r]
def B5 (P : PT) (N2 : NTy k1 Pr) (N4 : NTy k2 Pr) (x2 : Int) (x3 : Nat) (x7 x9 : Value) (x10 : Int) (x11 : Value) (x12 : Int) (H : AHeap) : Prop :=
  N4 x2 x3 x7 x9 x10 x11 (IntKind.i64.wrap (x12 + 1)) H
theorem q5 (P : PT) (N2 : NTy k1 Pr) (N4 : NTy k2 Pr) : QB Tryz.prog T0 88 o5 (En 88 k2 N4) k2 (B5 P N2 N4) := fun _ _ _ _ _ _ _ _ _  => by kernel_rfl
abbrev k3 : Sk := [(2,.i .i64),(3,.x),(7,.v),(9,.v),(10,.i .i64),(11,.v),(12,.i .i64),(13,.i .i64)]
noncomputable def o6 := ob Tryz.f154 [.r,.r,.r,.r,.r,.l,.r,.l,.l,.r,.l,.l,.r,.r,.l,.l,.r,.l,.l,.r,.r,.l,.r]
def B6 (P : PT) (N2 : NTy k1 Pr) (N4 : NTy k2 Pr) (x2 : Int) (x3 : Nat) (x7 x9 : Value) (x10 : Int) (x11 : Value) (x12 x13 : Int) (H : AHeap) : Prop :=
  newK H [(Value.int .i64 x13)] 2 (fun b1 H2 => apK T0 2 H2 x9 (Value.slice (some ⟨b1, 0, none⟩) 1 (1 + 1)) (fun v3 H4 => B5 P N2 N4 x2 x3 x7 v3 x10 x11 x12 H4))
theorem q6 (P : PT) (N2 : NTy k1 Pr) (N4 : NTy k2 Pr) : QB Tryz.prog T0 88 o6 (En 88 k2 (B5 P N2 N4)) k3 (B6 P N2 N4) := fun _ _ _ _ _ _ _ _ _ _  => by kernel_rfl
noncomputable def o7 := ob Tryz.f154 [.r,.r,.r,.r,.r,.l,.r,.l,.l,.r,.l,.l,.r,.r,.l,.l,.r,.l,.l,.r,.r,.l,.l]
def B7 (P : PT) (N2 : NTy k1 Pr) (N4 : NTy k2 Pr) (x2 : Int) (x3 : Nat) (x7 x9 : Value) (x10 : Int) (x11 : Value) (x12 x13 : Int) (H : AHeap) : Prop :=
  idxK x9 x10 1 (fun b1 o2 => ldI .i64 H b1 o2 (fun v3 => idxK x7 v3 1 (fun b4 o5 => ldI .i64 H b4 o5 (fun v6 => idxK x7 x13 1 (fun b7 o8 => stK H b7 o8 [(Value.int .i64 (IntKind.i64.wrap (v6 + 1)))] (fun H9 => B6 P N2 N4 x2 x3 x7 x9 x10 x11 x12 x13 H9))))))
theorem q7 (P : PT) (N2 : NTy k1 Pr) (N4 : NTy k2 Pr) : QB Tryz.prog T0 88 o7 (En 88 k3 (B6 P N2 N4)) k3 (B7 P N2 N4) := fun _ _ _ _ _ _ _ _ _ _  => by kernel_rfl
noncomputable def o8 := ob Tryz.f154 [.r,.r,.r,.r,.r,.l,.r,.l,.l,.r,.l,.l,.r,.r,.l,.l,.r,.l,.l,.r,.l]
def B8 (P : PT) (N2 : NTy k1 Pr) (N4 : NTy k2 Pr) (x2 : Int) (x3 : Nat) (x7 x9 : Value) (x10 : Int) (x11 : Value) (x12 x13 : Int) (H : AHeap) : Prop :=
  idxK x11 x12 1 (fun b1 o2 => ldI .i64 H b1 o2 (fun v3 => pif ((v3 : Int) != x2) (idxK x7 x13 1 (fun b4 o5 => ldI .i64 H b4 o5 (fun v6 => pif (decide ((v6 : Int) < 0)) (B7 P N2 N4 x2 x3 x7 x9 x10 x11 x12 x13 H) (B5 P N2 N4 x2 x3 x7 x9 x10 x11 x12 H)))) (B5 P N2 N4 x2 x3 x7 x9 x10 x11 x12 H)))
theorem q8 (P : PT) (N2 : NTy k1 Pr) (N4 : NTy k2 Pr) : QB Tryz.prog T0 88 o8 (cnd 71 (En 88 k3 (B7 P N2 N4)) (En 88 k2 (B5 P N2 N4))) k3 (B8 P N2 N4) := fun _ _ _ _ _ _ _ _ _ _  => by kernel_rfl
noncomputable def o9 := ob Tryz.f154 [.r,.r,.r,.r,.r,.l,.r,.l,.l,.r,.l,.l,.r,.r,.l,.l,.r,.l,.l,.l]
def B9 (P : PT) (N2 : NTy k1 Pr) (N4 : NTy k2 Pr) (x2 : Int) (x3 : Nat) (x7 x9 : Value) (x10 : Int) (x11 : Value) (x12 : Int) (H : AHeap) : Prop :=
  ldI .i64 H x3 0 (fun v1 => ld1 H x3 1 (fun v2 => idxK x11 x12 1 (fun b3 o4 => ldI .i64 H b3 o4 (fun v5 => idxK x9 x10 1 (fun b6 o7 => ldI .i64 H b6 o7 (fun v8 => AC Tryz.prog T0 191 [(Value.agg ⟨[(Value.int .i64 v1), v2]⟩), (Value.int .i64 v5), (Value.int .i64 v8)] H (fun v9 H10 => asI .i64 v9 (fun v11 => B8 P N2 N4 x2 x3 x7 x9 x10 x11 x12 v11 H10))))))))
theorem q9 (P : PT) (N2 : NTy k1 Pr) (N4 : NTy k2 Pr) : QD Tryz.prog T0 88 o9 [(0, false), (1, false), (2, false), (3, false), (4, false), (5, false), (6, false), (7, false), (8, false), (9, false), (10, false)] (En 88 k3 (B8 P N2 N4)) k2 (B9 P N2 N4) := fun _ _ _ _ _ _ _ _ _  => by kernel_rfl
noncomputable def o10 := ob Tryz.f154 [.r,.r,.r,.r,.r,.l,.r,.l,.l,.r,.l,.l,.r,.r,.l,.l,.l,.l]
def B10 (P : PT) (N2 : NTy k1 Pr) (N4 : NTy k2 Pr) (x2 : Int) (x3 : Nat) (x7 x9 : Value) (x10 : Int) (x11 : Value) (x12 : Int) (H : AHeap) : Prop :=
  lenK x11 (fun n1 => pif (decide ((x12 : Int) < (n1 : Int))) (B9 P N2 N4 x2 x3 x7 x9 x10 x11 x12 H) (B3 P N2 x2 x3 x7 x9 x10 H))
theorem q10 (P : PT) (N2 : NTy k1 Pr) (N4 : NTy k2 Pr) : QB Tryz.prog T0 88 o10 (cnd 46 (En 88 k2 (B9 P N2 N4)) (En 88 k1 (B3 P N2))) k2 (B10 P N2 N4) := fun _ _ _ _ _ _ _ _ _  => by kernel_rfl
def L4 (P : PT) (N2 : NTy k1 Pr) (x2 : Int) (x3 : Nat) (x7 x9 : Value) (x10 : Int) (x11 : Value) (x12 : Int) (H : AHeap) : Prop :=
  ∃ (I : NTy k2 Pr) (μ : NTy k2 (AHeap → Nat)), I x2 x3 x7 x9 x10 x11 x12 H ∧ ∀ y2 y3 y7 y9 y10 y11 y12 G, I y2 y3 y7 y9 y10 y11 y12 G → B10 P N2 (fun z2 z3 z7 z9 z10 z11 z12 G' => I z2 z3 z7 z9 z10 z11 z12 G' ∧ μ z2 z3 z7 z9 z10 z11 z12 G' < μ y2 y3 y7 y9 y10 y11 y12 G) y2 y3 y7 y9 y10 y11 y12 G
theorem l4 (P : PT) (N2 : NTy k1 Pr) : LQ k2 (L4 P N2) (B10 P N2) := fun ⟨_,_,_,_,_,_,_,_⟩ _ ⟨I, μ, h0, hI⟩ => ⟨apT _ I, apT _ μ, h0, fun ⟨_,_,_,_,_,_,_,_⟩ _ h => hI _ _ _ _ _ _ _ _  h⟩
abbrev k4 : Sk := [(2,.i .i64),(3,.x),(7,.v),(9,.v),(10,.i .i64),(11,.v)]
noncomputable def o11 := ob Tryz.f154 [.r,.r,.r,.r,.r,.l,.r,.l,.l,.r,.l,.l,.r,.l]
def B11 (P : PT) (N2 : NTy k1 Pr) (x2 : Int) (x3 : Nat) (x7 x9 : Value) (x10 : Int) (x11 : Value) (H : AHeap) : Prop :=
  L4 P N2 x2 x3 x7 x9 x10 x11 0 H
theorem q11 (P : PT) (N2 : NTy k1 Pr) : QB Tryz.prog T0 88 o11 (En 88 k2 (L4 P N2)) k4 (B11 P N2) := fun _ _ _ _ _ _ _ _  => by kernel_rfl
noncomputable def o12 := ob Tryz.f154 [.r,.r,.r,.r,.r,.l,.r,.l,.l,.r,.l,.l,.l]
def B12 (P : PT) (N2 : NTy k1 Pr) (x2 : Int) (x3 : Nat) (x7 x9 : Value) (x10 : Int) (H : AHeap) : Prop :=
  ldI .i64 H x3 0 (fun v1 => ld1 H x3 1 (fun v2 => idxK x9 x10 1 (fun b3 o4 => ldI .i64 H b3 o4 (fun v5 => AC Tryz.prog T0 175 [(Value.agg ⟨[(Value.int .i64 v1), v2]⟩), (Value.int .i64 v5)] H (fun v6 H7 => B11 P N2 x2 x3 x7 x9 x10 v6 H7)))))
theorem q12 (P : PT) (N2 : NTy k1 Pr) : QD Tryz.prog T0 88 o12 [(0, false), (1, false), (2, false), (3, false), (4, false), (5, false), (6, false)] (En 88 k4 (B11 P N2)) k1 (B12 P N2) := fun _ _ _ _ _ _ _  => by kernel_rfl
noncomputable def o13 := ob Tryz.f154 [.r,.r,.r,.r,.r,.l,.r,.l,.l,.l,.l]
def B13 (P : PT) (N2 : NTy k1 Pr) (x2 : Int) (x3 : Nat) (x7 x9 : Value) (x10 : Int) (H : AHeap) : Prop :=
  lenK x9 (fun n1 => pif (decide ((x10 : Int) < (n1 : Int))) (B12 P N2 x2 x3 x7 x9 x10 H) (B1 P x7 H))
theorem q13 (P : PT) (N2 : NTy k1 Pr) : QB Tryz.prog T0 88 o13 (cnd 34 (En 88 k1 (B12 P N2)) (En 88 k0 (B1 P))) k1 (B13 P N2) := fun _ _ _ _ _ _ _  => by kernel_rfl
def L2 (P : PT) (x2 : Int) (x3 : Nat) (x7 x9 : Value) (x10 : Int) (H : AHeap) : Prop :=
  ∃ (I : NTy k1 Pr) (μ : NTy k1 (AHeap → Nat)), I x2 x3 x7 x9 x10 H ∧ ∀ y2 y3 y7 y9 y10 G, I y2 y3 y7 y9 y10 G → B13 P (fun z2 z3 z7 z9 z10 G' => I z2 z3 z7 z9 z10 G' ∧ μ z2 z3 z7 z9 z10 G' < μ y2 y3 y7 y9 y10 G) y2 y3 y7 y9 y10 G
theorem l2 (P : PT) : LQ k1 (L2 P) (B13 P) := fun ⟨_,_,_,_,_,_⟩ _ ⟨I, μ, h0, hI⟩ => ⟨apT _ I, apT _ μ, h0, fun ⟨_,_,_,_,_,_⟩ _ h => hI _ _ _ _ _ _  h⟩
abbrev k5 : Sk := [(2,.i .i64),(3,.x),(7,.v),(9,.v)]
noncomputable def o14 := ob Tryz.f154 [.r,.r,.r,.r,.r,.l,.l]
def B14 (P : PT) (x2 : Int) (x3 : Nat) (x7 x9 : Value) (H : AHeap) : Prop :=
  L2 P x2 x3 x7 x9 0 H
theorem q14 (P : PT) : QB Tryz.prog T0 88 o14 (En 88 k1 (L2 P)) k5 (B14 P) := fun _ _ _ _ _ _  => by kernel_rfl
abbrev k6 : Sk := [(1,.i .i64),(2,.i .i64),(3,.x),(7,.v)]
noncomputable def o15 := ob Tryz.f154 [.r,.r,.r,.r,.l]
def B15 (P : PT) (x1 x2 : Int) (x3 : Nat) (x7 : Value) (H : AHeap) : Prop :=
  newK H [(Value.int .i64 x1)] 2 (fun b1 H2 => B14 P x2 x3 x7 (Value.slice (some ⟨b1, 0, none⟩) 1 (1 + 1)) H2)
theorem q15 (P : PT) : QB Tryz.prog T0 88 o15 (En 88 k5 (B14 P)) k6 (B15 P) := fun _ _ _ _ _ _  => by kernel_rfl
noncomputable def o16 := ob Tryz.f154 [.r,.r,.r,.l]
def B16 (P : PT) (x1 x2 : Int) (x3 : Nat) (x7 : Value) (H : AHeap) : Prop :=
  idxK x7 x1 1 (fun b1 o2 => stK H b1 o2 [(Value.int .i64 0)] (fun H3 => B15 P x1 x2 x3 x7 H3))
theorem q16 (P : PT) : QB Tryz.prog T0 88 o16 (En 88 k6 (B15 P)) k6 (B16 P) := fun _ _ _ _ _ _  => by kernel_rfl
abbrev k7 : Sk := [(1,.i .i64),(2,.i .i64),(3,.x),(7,.v),(8,.i .i64)]
noncomputable def o18 := ob Tryz.f154 [.r,.r,.l,.r,.l,.l,.r,.r]
def B18 (P : PT) (N17 : NTy k7 Pr) (x1 x2 : Int) (x3 : Nat) (x7 : Value) (x8 : Int) (H : AHeap) : Prop :=
  N17 x1 x2 x3 x7 (IntKind.i64.wrap (x8 + 1)) H
theorem q18 (P : PT) (N17 : NTy k7 Pr) : QB Tryz.prog T0 88 o18 (En 88 k7 N17) k7 (B18 P N17) := fun _ _ _ _ _ _ _  => by kernel_rfl
noncomputable def o19 := ob Tryz.f154 [.r,.r,.l,.r,.l,.l,.r,.l,.l]
def B19 (P : PT) (N17 : NTy k7 Pr) (x1 x2 : Int) (x3 : Nat) (x7 : Value) (x8 : Int) (H : AHeap) : Prop :=
  idxK x7 x8 1 (fun b1 o2 => stK H b1 o2 [(Value.int .i64 (-1))] (fun H3 => B18 P N17 x1 x2 x3 x7 x8 H3))
theorem q19 (P : PT) (N17 : NTy k7 Pr) : QB Tryz.prog T0 88 o19 (En 88 k7 (B18 P N17)) k7 (B19 P N17) := fun _ _ _ _ _ _ _  => by kernel_rfl
noncomputable def o20 := ob Tryz.f154 [.r,.r,.l,.r,.l,.l,.l,.l]
def B20 (P : PT) (N17 : NTy k7 Pr) (x1 x2 : Int) (x3 : Nat) (x7 : Value) (x8 : Int) (H : AHeap) : Prop :=
  ldI .i64 H x3 0 (fun v1 => pif (decide ((x8 : Int) < v1)) (B19 P N17 x1 x2 x3 x7 x8 H) (B16 P x1 x2 x3 x7 H))
theorem q20 (P : PT) (N17 : NTy k7 Pr) : QB Tryz.prog T0 88 o20 (cnd 20 (En 88 k7 (B19 P N17)) (En 88 k6 (B16 P))) k7 (B20 P N17) := fun _ _ _ _ _ _ _  => by kernel_rfl
def L17 (P : PT) (x1 x2 : Int) (x3 : Nat) (x7 : Value) (x8 : Int) (H : AHeap) : Prop :=
  ∃ (I : NTy k7 Pr) (μ : NTy k7 (AHeap → Nat)), I x1 x2 x3 x7 x8 H ∧ ∀ y1 y2 y3 y7 y8 G, I y1 y2 y3 y7 y8 G → B20 P (fun z1 z2 z3 z7 z8 G' => I z1 z2 z3 z7 z8 G' ∧ μ z1 z2 z3 z7 z8 G' < μ y1 y2 y3 y7 y8 G) y1 y2 y3 y7 y8 G
theorem l17 (P : PT) : LQ k7 (L17 P) (B20 P) := fun ⟨_,_,_,_,_,_⟩ _ ⟨I, μ, h0, hI⟩ => ⟨apT _ I, apT _ μ, h0, fun ⟨_,_,_,_,_,_⟩ _ h => hI _ _ _ _ _ _  h⟩
noncomputable def o21 := ob Tryz.f154 [.r,.r,.l,.l]
def B21 (P : PT) (x1 x2 : Int) (x3 : Nat) (x7 : Value) (H : AHeap) : Prop :=
  L17 P x1 x2 x3 x7 0 H
theorem q21 (P : PT) : QB Tryz.prog T0 88 o21 (En 88 k7 (L17 P)) k6 (B21 P) := fun _ _ _ _ _ _  => by kernel_rfl
abbrev k8 : Sk := [(1,.i .i64),(2,.i .i64),(3,.x)]
noncomputable def o22 := ob Tryz.f154 [.r,.l]
def B22 (P : PT) (x1 x2 : Int) (x3 : Nat) (H : AHeap) : Prop :=
  ldI .i64 H x3 0 (fun v1 => mkR H 8 2 [(Value.int .i64 0)] v1 v1 (fun v3 H2 => B21 P x1 x2 x3 v3 H2))
theorem q22 (P : PT) : QB Tryz.prog T0 88 o22 (En 88 k6 (B21 P)) k8 (B22 P) := fun _ _ _ _ _  => by kernel_rfl
abbrev k9 : Sk := [(0,.g [.i,.v]),(1,.i .i64),(2,.i .i64)]
noncomputable def o23 := ob Tryz.f154 [.l]
def B23 (P : PT) (x0a : Int) (x0b : Value) (x1 x2 : Int) (H : AHeap) : Prop :=
  newK H [(Value.int .i64 x0a), x0b] 26 (fun b1 H2 => B22 P x1 x2 b1 H2)
theorem q23 (P : PT) : QB Tryz.prog T0 88 o23 (En 88 k8 (B22 P)) k9 (B23 P) := fun _ _ _ _ _ _  => by kernel_rfl
noncomputable def code : Code := (.seq (.region 0 ⟨o23⟩ false) (.seq (.region 1 ⟨o22⟩ false) (.seq (.seq (.region 2 ⟨o21⟩ false) (.block 0 (.loop (.seq (.seq (.region 3 ⟨o20⟩ false) (.cond (.tmp 20) .skip (.exit 0))) (.seq (.block 1 (.region 5 ⟨o19⟩ false)) (.region 4 ⟨o18⟩ false)))))) (.seq (.region 6 ⟨o16⟩ false) (.seq (.region 7 ⟨o15⟩ false) (.seq (.seq (.region 8 ⟨o14⟩ false) (.block 2 (.loop (.seq (.seq (.region 9 ⟨o13⟩ false) (.cond (.tmp 34) .skip (.exit 2))) (.seq (.block 3 (.seq (.region 11 ⟨o12⟩ true) (.seq (.region 12 ⟨o11⟩ false) (.block 4 (.loop (.seq (.seq (.region 13 ⟨o10⟩ false) (.cond (.tmp 46) .skip (.exit 4))) (.seq (.block 5 (.seq (.region 15 ⟨o9⟩ true) (.seq (.region 16 ⟨o8⟩ false) (.cond (.tmp 71) (.seq (.region 17 ⟨o7⟩ false) (.region 18 ⟨o6⟩ false)) .skip)))) (.region 14 ⟨o5⟩ false)))))))) (.region 10 ⟨o3⟩ false)))))) (.seq (.region 19 ⟨o1⟩ false) .ret)))))))
theorem body : Tryz.f154.body = some code := by kernel_rfl
theorem main (P : PT) : ∀ env H, (En 88 k9 (B23 P)) env H → AW Tryz.prog T0 code env H (mkQ (ret P) (fun _ _ _ => False) (ret P)) :=
  (r_seq (rB T0_ok (q23 P)) (r_seq (rB T0_ok (q22 P)) (r_seq (r_seq (rB T0_ok (q21 P)) (r_block (rL (l17 P) (fun N17 => (r_seq (r_seq (rB T0_ok (q20 P N17)) (r_cond rfl r_skip (r_exit (fun _ _ h => h)))) (r_seq (r_block (rB T0_ok (q19 P N17))) (rB T0_ok (q18 P N17)))))))) (r_seq (rB T0_ok (q16 P)) (r_seq (rB T0_ok (q15 P)) (r_seq (r_seq (rB T0_ok (q14 P)) (r_block (rL (l2 P) (fun N2 => (r_seq (r_seq (rB T0_ok (q13 P N2)) (r_cond rfl r_skip (r_exit (fun _ _ h => h)))) (r_seq (r_block (r_seq (rD T0_ok mixed [(0, false), (1, false), (2, false), (3, false), (4, false), (5, false), (6, false)] (by kernel_rfl) (q12 P N2)) (r_seq (rB T0_ok (q11 P N2)) (r_block (rL (l4 P N2) (fun N4 => (r_seq (r_seq (rB T0_ok (q10 P N2 N4)) (r_cond rfl r_skip (r_exit (fun _ _ h => h)))) (r_seq (r_block (r_seq (rD T0_ok mixed [(0, false), (1, false), (2, false), (3, false), (4, false), (5, false), (6, false), (7, false), (8, false), (9, false), (10, false)] (by kernel_rfl) (q9 P N2 N4)) (r_seq (rB T0_ok (q8 P N2 N4)) (r_cond rfl (r_seq (rB T0_ok (q7 P N2 N4)) (rB T0_ok (q6 P N2 N4))) r_skip)))) (rB T0_ok (q5 P N2 N4)))))))))) (rB T0_ok (q3 P N2)))))))) (r_seq (rB T0_ok (q1 P)) r_ret)))))))
theorem ac (P : PT) (x0a : Int) (x0b : Value) (x1 x2 : Int) (H : AHeap) (h : B23 P x0a x0b x1 x2 H) : AC Tryz.prog T0 154 [(Value.agg ⟨[(Value.int .i64 x0a), x0b]⟩), (Value.int .i64 x1), (Value.int .i64 x2)] H P :=
  r_fn T0_ok (c := code) (n := 88) Tryz.func154 body (by kernel_rfl) (main P) (En_mk (x0a, x0b, x1, x2, ()) (by kernel_rfl) ⟨by kernel_rfl, by kernel_rfl, by kernel_rfl, trivial⟩ h)

end F154
-- (loop.example/g01329/impl.Graph).distances
namespace F155
noncomputable def ret (P : PT) : EP := retE T0 72 Tryz.f155 P
abbrev k0 : Sk := [(7,.v)]
noncomputable def o1 := ob Tryz.f155 [.r,.r,.r,.r,.l]
def B1 (P : PT) (x7 : Value) (H : AHeap) : Prop :=
  P x7 H
theorem q1 (P : PT) : QB Tryz.prog T0 72 o1 (ret P) k0 (B1 P) := fun _ _ _  => by kernel_rfl
abbrev k1 : Sk := [(2,.i .u64),(3,.x),(7,.v),(8,.v)]
noncomputable def o3 := ob Tryz.f155 [.r,.r,.r,.l,.r,.l,.l,.r,.r]
def B3 (P : PT) (N2 : NTy k1 Pr) (x2 : Int) (x3 : Nat) (x7 x8 : Value) (H : AHeap) : Prop :=
  sliceK H 2 x8 (some (Value.int .i64 1)) none 1 (fun v1 => N2 x2 x3 x7 v1 H)
theorem q3 (P : PT) (N2 : NTy k1 Pr) : QB Tryz.prog T0 72 o3 (En 72 k1 N2) k1 (B3 P N2) := fun _ _ _ _ _ _  => by kernel_rfl
abbrev k2 : Sk := [(2,.i .u64),(3,.x),(7,.v),(8,.v),(30,.v),(31,.i .i64),(32,.i .i64)]
noncomputable def o5 := ob Tryz.f155 [.r,.r,.r,.l,.r,.l,.l,.r,.l,.l,.r,.l,.l,.r,.r,.r]
def B5 (P : PT) (N2 : NTy k1 Pr) (N4 : NTy k2 Pr) (x2 : Int) (x3 : Nat) (x7 x8 x30 : Value) (x31 x32 : Int) (H : AHeap) : Prop :=
  N4 x2 x3 x7 x8 x30 x31 (IntKind.i64.wrap (x32 + 1)) H
theorem q5 (P : PT) (N2 : NTy k1 Pr) (N4 : NTy k2 Pr) : QB Tryz.prog T0 72 o5 (En 72 k2 N4) k2 (B5 P N2 N4) := fun _ _ _ _ _ _ _ _ _  => by kernel_rfl
abbrev k3 : Sk := [(2,.i .u64),(3,.x),(7,.v),(8,.v),(11,.i .i64),(30,.v),(31,.i .i64),(32,.i .i64)]
noncomputable def o6 := ob Tryz.f155 [.r,.r,.r,.l,.r,.l,.l,.r,.l,.l,.r,.l,.l,.r,.r,.l,.l,.r,.r,.r,.l,.r]
def B6 (P : PT) (N2 : NTy k1 Pr) (N4 : NTy k2 Pr) (x2 : Int) (x3 : Nat) (x7 x8 : Value) (x11 : Int) (x30 : Value) (x31 x32 : Int) (H : AHeap) : Prop :=
  newK H [(Value.int .i64 x11)] 2 (fun b1 H2 => apK T0 2 H2 x8 (Value.slice (some ⟨b1, 0, none⟩) 1 (1 + 1)) (fun v3 H4 => B5 P N2 N4 x2 x3 x7 v3 x30 x31 x32 H4))
theorem q6 (P : PT) (N2 : NTy k1 Pr) (N4 : NTy k2 Pr) : QB Tryz.prog T0 72 o6 (En 72 k2 (B5 P N2 N4)) k3 (B6 P N2 N4) := fun _ _ _ _ _ _ _ _ _ _  => by kernel_rfl
noncomputable def o7 := ob Tryz.f155 [.r,.r,.r,.l,.r,.l,.l,.r,.l,.l,.r,.l,.l,.r,.r,.l,.l,.r,.r,.r,.l,.l]
def B7 (P : PT) (N2 : NTy k1 Pr) (N4 : NTy k2 Pr) (x2 : Int) (x3 : Nat) (x7 x8 : Value) (x11 : Int) (x30 : Value) (x31 x32 : Int) (H : AHeap) : Prop :=
  idxK x8 0 1 (fun b1 o2 => ldI .i64 H b1 o2 (fun v3 => idxK x7 v3 1 (fun b4 o5 => ldI .i64 H b4 o5 (fun v6 => idxK x7 x11 1 (fun b7 o8 => stK H b7 o8 [(Value.int .i64 (IntKind.i64.wrap (v6 + 1)))] (fun H9 => B6 P N2 N4 x2 x3 x7 x8 x11 x30 x31 x32 H9))))))
theorem q7 (P : PT) (N2 : NTy k1 Pr) (N4 : NTy k2 Pr) : QB Tryz.prog T0 72 o7 (En 72 k3 (B6 P N2 N4)) k3 (B7 P N2 N4) := fun _ _ _ _ _ _ _ _ _ _  => by kernel_rfl
abbrev k4 : Sk := [(2,.i .u64),(3,.x),(7,.v),(8,.v),(10,.i .i64),(11,.i .i64),(30,.v),(31,.i .i64),(32,.i .i64)]
noncomputable def o8 := ob Tryz.f155 [.r,.r,.r,.l,.r,.l,.l,.r,.l,.l,.r,.l,.l,.r,.r,.l,.l,.r,.r,.l]
def B8 (P : PT) (N2 : NTy k1 Pr) (N4 : NTy k2 Pr) (x2 : Int) (x3 : Nat) (x7 x8 : Value) (x10 x11 : Int) (x30 : Value) (x31 x32 : Int) (H : AHeap) : Prop :=
  idxK x7 x11 1 (fun b1 o2 => ldI .i64 H b1 o2 (fun v3 => pif (decide ((v3 : Int) < 0)) (AC Tryz.prog T0 134 [(Value.int .u64 x2), (Value.int .i64 x10)] H (fun v4 H5 => asB v4 (fun v6 => pif (!v6) (B7 P N2 N4 x2 x3 x7 x8 x11 x30 x31 x32 H5) (B5 P N2 N4 x2 x3 x7 x8 x30 x31 x32 H5)))) (B5 P N2 N4 x2 x3 x7 x8 x30 x31 x32 H)))
theorem q8 (P : PT) (N2 : NTy k1 Pr) (N4 : NTy k2 Pr) : QB Tryz.prog T0 72 o8 (cnd 55 (En 72 k3 (B7 P N2 N4)) (En 72 k2 (B5 P N2 N4))) k4 (B8 P N2 N4) := fun _ _ _ _ _ _ _ _ _ _ _  => by kernel_rfl
abbrev k5 : Sk := [(2,.i .u64),(3,.x),(7,.v),(8,.v),(10,.i .i64),(30,.v),(31,.i .i64),(32,.i .i64)]
noncomputable def o9 := ob Tryz.f155 [.r,.r,.r,.l,.r,.l,.l,.r,.l,.l,.r,.l,.l,.r,.r,.l,.l,.r,.l]
def B9 (P : PT) (N2 : NTy k1 Pr) (N4 : NTy k2 Pr) (x2 : Int) (x3 : Nat) (x7 x8 : Value) (x10 : Int) (x30 : Value) (x31 x32 : Int) (H : AHeap) : Prop :=
  ld1 H x3 1 (fun v1 => idxK v1 x10 2 (fun b2 o3 => ldI .i64 H b2 o3 (fun v4 => ldI .i64 H b2 (o3 + 1) (fun v5 => idxK x8 0 1 (fun b6 o7 => ldI .i64 H b6 o7 (fun v8 => AC Tryz.prog T0 193 [(Value.agg ⟨[(Value.int .i64 v4), (Value.int .i64 v5)]⟩), (Value.int .i64 v8)] H (fun v9 H10 => asI .i64 v9 (fun v11 => B8 P N2 N4 x2 x3 x7 x8 x10 v11 x30 x31 x32 H10))))))))
theorem q9 (P : PT) (N2 : NTy k1 Pr) (N4 : NTy k2 Pr) : QD Tryz.prog T0 72 o9 [(0, false), (1, false), (2, false), (3, false), (4, false), (5, false), (6, false), (7, false), (8, false), (9, false)] (En 72 k4 (B8 P N2 N4)) k5 (B9 P N2 N4) := fun _ _ _ _ _ _ _ _ _ _  => by kernel_rfl
noncomputable def o10 := ob Tryz.f155 [.r,.r,.r,.l,.r,.l,.l,.r,.l,.l,.r,.l,.l,.r,.r,.l,.l,.l]
def B10 (P : PT) (N2 : NTy k1 Pr) (N4 : NTy k2 Pr) (x2 : Int) (x3 : Nat) (x7 x8 x30 : Value) (x31 x32 : Int) (H : AHeap) : Prop :=
  idxK x30 x32 1 (fun b1 o2 => ldI .i64 H b1 o2 (fun v3 => B9 P N2 N4 x2 x3 x7 x8 v3 x30 x31 x32 H))
theorem q10 (P : PT) (N2 : NTy k1 Pr) (N4 : NTy k2 Pr) : QB Tryz.prog T0 72 o10 (En 72 k5 (B9 P N2 N4)) k2 (B10 P N2 N4) := fun _ _ _ _ _ _ _ _ _  => by kernel_rfl
noncomputable def o11 := ob Tryz.f155 [.r,.r,.r,.l,.r,.l,.l,.r,.l,.l,.r,.l,.l,.l]
def B11 (P : PT) (N2 : NTy k1 Pr) (N4 : NTy k2 Pr) (x2 : Int) (x3 : Nat) (x7 x8 x30 : Value) (x31 x32 : Int) (H : AHeap) : Prop :=
  pif (decide ((x32 : Int) < x31)) (B10 P N2 N4 x2 x3 x7 x8 x30 x31 x32 H) (B3 P N2 x2 x3 x7 x8 H)
theorem q11 (P : PT) (N2 : NTy k1 Pr) (N4 : NTy k2 Pr) : QB Tryz.prog T0 72 o11 (cnd 33 (En 72 k2 (B10 P N2 N4)) (En 72 k1 (B3 P N2))) k2 (B11 P N2 N4) := fun _ _ _ _ _ _ _ _ _  => by kernel_rfl
def L4 (P : PT) (N2 : NTy k1 Pr) (x2 : Int) (x3 : Nat) (x7 x8 x30 : Value) (x31 x32 : Int) (H : AHeap) : Prop :=
  ∃ (I : NTy k2 Pr) (μ : NTy k2 (AHeap → Nat)), I x2 x3 x7 x8 x30 x31 x32 H ∧ ∀ y2 y3 y7 y8 y30 y31 y32 G, I y2 y3 y7 y8 y30 y31 y32 G → B11 P N2 (fun z2 z3 z7 z8 z30 z31 z32 G' => I z2 z3 z7 z8 z30 z31 z32 G' ∧ μ z2 z3 z7 z8 z30 z31 z32 G' < μ y2 y3 y7 y8 y30 y31 y32 G) y2 y3 y7 y8 y30 y31 y32 G
theorem l4 (P : PT) (N2 : NTy k1 Pr) : LQ k2 (L4 P N2) (B11 P N2) := fun ⟨_,_,_,_,_,_,_,_⟩ _ ⟨I, μ, h0, hI⟩ => ⟨apT _ I, apT _ μ, h0, fun ⟨_,_,_,_,_,_,_,_⟩ _ h => hI _ _ _ _ _ _ _ _  h⟩
noncomputable def o12 := ob Tryz.f155 [.r,.r,.r,.l,.r,.l,.l,.r,.l,.l,.l]
def B12 (P : PT) (N2 : NTy k1 Pr) (x2 : Int) (x3 : Nat) (x7 x8 : Value) (H : AHeap) : Prop :=
  ldI .i64 H x3 0 (fun v1 => ld1 H x3 1 (fun v2 => idxK x8 0 1 (fun b3 o4 => ldI .i64 H b3 o4 (fun v5 => AC Tryz.prog T0 161 [(Value.agg ⟨[(Value.int .i64 v1), v2]⟩), (Value.int .i64 v5)] H (fun v6 H7 => lenK v6 (fun n9 => L4 P N2 x2 x3 x7 x8 v6 (n9 : Int) 0 H7))))))
theorem q12 (P : PT) (N2 : NTy k1 Pr) : QD Tryz.prog T0 72 o12 [(0, false), (1, false), (2, false), (3, false), (6, false), (4, false), (5, false)] (En 72 k2 (L4 P N2)) k1 (B12 P N2) := fun _ _ _ _ _ _  => by kernel_rfl
noncomputable def o13 := ob Tryz.f155 [.r,.r,.r,.l,.r,.l,.l,.l,.l]
def B13 (P : PT) (N2 : NTy k1 Pr) (x2 : Int) (x3 : Nat) (x7 x8 : Value) (H : AHeap) : Prop :=
  lenK x8 (fun n1 => pif (decide (((n1 : Int) : Int) > 0)) (B12 P N2 x2 x3 x7 x8 H) (B1 P x7 H))
theorem q13 (P : PT) (N2 : NTy k1 Pr) : QB Tryz.prog T0 72 o13 (cnd 23 (En 72 k1 (B12 P N2)) (En 72 k0 (B1 P))) k1 (B13 P N2) := fun _ _ _ _ _ _  => by kernel_rfl
def L2 (P : PT) (x2 : Int) (x3 : Nat) (x7 x8 : Value) (H : AHeap) : Prop :=
  ∃ (I : NTy k1 Pr) (μ : NTy k1 (AHeap → Nat)), I x2 x3 x7 x8 H ∧ ∀ y2 y3 y7 y8 G, I y2 y3 y7 y8 G → B13 P (fun z2 z3 z7 z8 G' => I z2 z3 z7 z8 G' ∧ μ z2 z3 z7 z8 G' < μ y2 y3 y7 y8 G) y2 y3 y7 y8 G
theorem l2 (P : PT) : LQ k1 (L2 P) (B13 P) := fun ⟨_,_,_,_,_⟩ _ ⟨I, μ, h0, hI⟩ => ⟨apT _ I, apT _ μ, h0, fun ⟨_,_,_,_,_⟩ _ h => hI _ _ _ _ _  h⟩
abbrev k6 : Sk := [(1,.i .i64),(2,.i .u64),(3,.x),(7,.v)]
noncomputable def o14 := ob Tryz.f155 [.r,.r,.r,.l,.l]
def B14 (P : PT) (x1 x2 : Int) (x3 : Nat) (x7 : Value) (H : AHeap) : Prop :=
  newK H [(Value.int .i64 x1)] 2 (fun b1 H2 => L2 P x2 x3 x7 (Value.slice (some ⟨b1, 0, none⟩) 1 (1 + 1)) H2)
theorem q14 (P : PT) : QB Tryz.prog T0 72 o14 (En 72 k1 (L2 P)) k6 (B14 P) := fun _ _ _ _ _ _  => by kernel_rfl
noncomputable def o15 := ob Tryz.f155 [.r,.r,.l]
def B15 (P : PT) (x1 x2 : Int) (x3 : Nat) (x7 : Value) (H : AHeap) : Prop :=
  idxK x7 x1 1 (fun b1 o2 => stK H b1 o2 [(Value.int .i64 0)] (fun H3 => B14 P x1 x2 x3 x7 H3))
theorem q15 (P : PT) : QB Tryz.prog T0 72 o15 (En 72 k6 (B14 P)) k6 (B15 P) := fun _ _ _ _ _ _  => by kernel_rfl
abbrev k7 : Sk := [(1,.i .i64),(2,.i .u64),(3,.x)]
noncomputable def o16 := ob Tryz.f155 [.r,.l]
def B16 (P : PT) (x1 x2 : Int) (x3 : Nat) (H : AHeap) : Prop :=
  newK H [(Value.int .i64 (-1))] 2 (fun b1 H2 => ldI .i64 H2 x3 0 (fun v3 => AC Tryz.prog T0 192 [(Value.slice (some ⟨b1, 0, none⟩) 1 (1 + 1)), (Value.int .i64 v3)] H2 (fun v4 H5 => B15 P x1 x2 x3 v4 H5)))
theorem q16 (P : PT) : QB Tryz.prog T0 72 o16 (En 72 k6 (B15 P)) k7 (B16 P) := fun _ _ _ _ _  => by kernel_rfl
abbrev k8 : Sk := [(0,.g [.i,.v]),(1,.i .i64),(2,.i .u64)]
noncomputable def o17 := ob Tryz.f155 [.l]
def B17 (P : PT) (x0a : Int) (x0b : Value) (x1 x2 : Int) (H : AHeap) : Prop :=
  newK H [(Value.int .i64 x0a), x0b] 26 (fun b1 H2 => B16 P x1 x2 b1 H2)
theorem q17 (P : PT) : QB Tryz.prog T0 72 o17 (En 72 k7 (B16 P)) k8 (B17 P) := fun _ _ _ _ _ _  => by kernel_rfl
noncomputable def code : Code := (.seq (.region 0 ⟨o17⟩ false) (.seq (.region 1 ⟨o16⟩ false) (.seq (.region 2 ⟨o15⟩ false) (.seq (.seq (.region 3 ⟨o14⟩ false) (.block 0 (.loop (.seq (.seq (.region 4 ⟨o13⟩ false) (.cond (.tmp 23) .skip (.exit 0))) (.seq (.block 1 (.seq (.region 6 ⟨o12⟩ true) (.block 2 (.loop (.seq (.region 7 ⟨o11⟩ false) (.seq (.cond (.tmp 33) .skip (.exit 2)) (.seq (.block 3 (.seq (.region 8 ⟨o10⟩ false) (.seq (.region 9 ⟨o9⟩ true) (.seq (.region 10 ⟨o8⟩ false) (.cond (.tmp 55) (.seq (.region 11 ⟨o7⟩ false) (.region 12 ⟨o6⟩ false)) .skip))))) (.region 13 ⟨o5⟩ false)))))))) (.region 5 ⟨o3⟩ false)))))) (.seq (.region 14 ⟨o1⟩ false) .ret)))))
theorem body : Tryz.f155.body = some code := by kernel_rfl
theorem main (P : PT) : ∀ env H, (En 72 k8 (B17 P)) env H → AW Tryz.prog T0 code env H (mkQ (ret P) (fun _ _ _ => False) (ret P)) :=
  (r_seq (rB T0_ok (q17 P)) (r_seq (rB T0_ok (q16 P)) (r_seq (rB T0_ok (q15 P)) (r_seq (r_seq (rB T0_ok (q14 P)) (r_block (rL (l2 P) (fun N2 => (r_seq (r_seq (rB T0_ok (q13 P N2)) (r_cond rfl r_skip (r_exit (fun _ _ h => h)))) (r_seq (r_block (r_seq (rD T0_ok mixed [(0, false), (1, false), (2, false), (3, false), (6, false), (4, false), (5, false)] (by kernel_rfl) (q12 P N2)) (r_block (rL (l4 P N2) (fun N4 => (r_seq (rB T0_ok (q11 P N2 N4)) (r_seq (r_cond rfl r_skip (r_exit (fun _ _ h => h))) (r_seq (r_block (r_seq (rB T0_ok (q10 P N2 N4)) (r_seq (rD T0_ok mixed [(0, false), (1, false), (2, false), (3, false), (4, false), (5, false), (6, false), (7, false), (8, false), (9, false)] (by kernel_rfl) (q9 P N2 N4)) (r_seq (rB T0_ok (q8 P N2 N4)) (r_cond rfl (r_seq (rB T0_ok (q7 P N2 N4)) (rB T0_ok (q6 P N2 N4))) r_skip))))) (rB T0_ok (q5 P N2 N4)))))))))) (rB T0_ok (q3 P N2)))))))) (r_seq (rB T0_ok (q1 P)) r_ret)))))
theorem ac (P : PT) (x0a : Int) (x0b : Value) (x1 x2 : Int) (H : AHeap) (h : B17 P x0a x0b x1 x2 H) : AC Tryz.prog T0 155 [(Value.agg ⟨[(Value.int .i64 x0a), x0b]⟩), (Value.int .i64 x1), (Value.int .u64 x2)] H P :=
  r_fn T0_ok (c := code) (n := 72) Tryz.func155 body (by kernel_rfl) (main P) (En_mk (x0a, x0b, x1, x2, ()) (by kernel_rfl) ⟨by kernel_rfl, by kernel_rfl, by kernel_rfl, trivial⟩ h)

end F155
-- loop.example/g01329/impl.length[[]int64]
namespace F156
noncomputable def ret (P : PT) : EP := retE T0 5 Tryz.f156 P
abbrev k0 : Sk := [(0,.v)]
noncomputable def o1 := ob Tryz.f156 [.r,.l]
def B1 (P : PT) (x0 : Value) (H : AHeap) : Prop :=
  lenK x0 (fun n1 => P (Value.int .i64 (n1 : Int)) H)
theorem q1 (P : PT) : QB Tryz.prog T0 5 o1 (ret P) k0 (B1 P) := fun _ _ _  => by kernel_rfl
noncomputable def o2 := ob Tryz.f156 [.l]
def B2 (P : PT) (x0 : Value) (H : AHeap) : Prop :=
  B1 P x0 H
theorem q2 (P : PT) : QB Tryz.prog T0 5 o2 (En 5 k0 (B1 P)) k0 (B2 P) := fun _ _ _  => by kernel_rfl
noncomputable def code : Code := (.seq (.region 0 ⟨o2⟩ false) (.seq (.region 1 ⟨o1⟩ false) .ret))
theorem body : Tryz.f156.body = some code := by kernel_rfl
theorem main (P : PT) : ∀ env H, (En 5 k0 (B2 P)) env H → AW Tryz.prog T0 code env H (mkQ (ret P) (fun _ _ _ => False) (ret P)) :=
  (r_seq (rB T0_ok (q2 P)) (r_seq (rB T0_ok (q1 P)) r_ret))
theorem ac (P : PT) (x0 : Value) (H : AHeap) (h : B2 P x0 H) : AC Tryz.prog T0 156 [x0] H P :=
  r_fn T0_ok (c := code) (n := 5) Tryz.func156 body (by kernel_rfl) (main P) (En_mk (x0, ()) (by kernel_rfl) ⟨by kernel_rfl, trivial⟩ h)

end F156
-- (loop.example/g01329/impl.Graph).at
namespace F161
noncomputable def ret (P : PT) : EP := retE T0 25 Tryz.f161 P
abbrev k0 : Sk := [(5,.v)]
noncomputable def o1 := ob Tryz.f161 [.r,.r,.r,.l]
def B1 (P : PT) (x5 : Value) (H : AHeap) : Prop :=
  P x5 H
theorem q1 (P : PT) : QB Tryz.prog T0 25 o1 (ret P) k0 (B1 P) := fun _ _ _  => by kernel_rfl
abbrev k1 : Sk := [(1,.i .i64),(5,.v),(9,.v),(10,.i .i64),(11,.i .i64)]
noncomputable def o3 := ob Tryz.f161 [.r,.r,.l,.r,.l,.l,.r,.r,.r]
def B3 (P : PT) (N2 : NTy k1 Pr) (x1 : Int) (x5 x9 : Value) (x10 x11 : Int) (H : AHeap) : Prop :=
  N2 x1 x5 x9 x10 (IntKind.i64.wrap (x11 + 1)) H
theorem q3 (P : PT) (N2 : NTy k1 Pr) : QB Tryz.prog T0 25 o3 (En 25 k1 N2) k1 (B3 P N2) := fun _ _ _ _ _ _ _  => by kernel_rfl
abbrev k2 : Sk := [(1,.i .i64),(5,.v),(6,.i .i64),(9,.v),(10,.i .i64),(11,.i .i64)]
noncomputable def o4 := ob Tryz.f161 [.r,.r,.l,.r,.l,.l,.r,.r,.l,.l,.r,.r,.l]
def B4 (P : PT) (N2 : NTy k1 Pr) (x1 : Int) (x5 : Value) (x6 : Int) (x9 : Value) (x10 x11 : Int) (H : AHeap) : Prop :=
  newK H [(Value.int .i64 x6)] 2 (fun b1 H2 => apK T0 2 H2 x5 (Value.slice (some ⟨b1, 0, none⟩) 1 (1 + 1)) (fun v3 H4 => B3 P N2 x1 v3 x9 x10 x11 H4))
theorem q4 (P : PT) (N2 : NTy k1 Pr) : QB Tryz.prog T0 25 o4 (En 25 k1 (B3 P N2)) k2 (B4 P N2) := fun _ _ _ _ _ _ _ _  => by kernel_rfl
abbrev k3 : Sk := [(1,.i .i64),(5,.v),(6,.i .i64),(7,.x),(9,.v),(10,.i .i64),(11,.i .i64)]
noncomputable def o5 := ob Tryz.f161 [.r,.r,.l,.r,.l,.l,.r,.r,.l,.l,.r,.l]
def B5 (P : PT) (N2 : NTy k1 Pr) (x1 : Int) (x5 : Value) (x6 : Int) (x7 : Nat) (x9 : Value) (x10 x11 : Int) (H : AHeap) : Prop :=
  ldI .i64 H x7 0 (fun v1 => ldI .i64 H x7 1 (fun v2 => AC Tryz.prog T0 195 [(Value.agg ⟨[(Value.int .i64 v1), (Value.int .i64 v2)]⟩), (Value.int .i64 x1)] H (fun v3 H4 => asB v3 (fun v5 => pif v5 (B4 P N2 x1 x5 x6 x9 x10 x11 H4) (B3 P N2 x1 x5 x9 x10 x11 H4)))))
theorem q5 (P : PT) (N2 : NTy k1 Pr) : QB Tryz.prog T0 25 o5 (cnd 18 (En 25 k2 (B4 P N2)) (En 25 k1 (B3 P N2))) k3 (B5 P N2) := fun _ _ _ _ _ _ _ _ _  => by kernel_rfl
noncomputable def o6 := ob Tryz.f161 [.r,.r,.l,.r,.l,.l,.r,.r,.l,.l,.l]
def B6 (P : PT) (N2 : NTy k1 Pr) (x1 : Int) (x5 x9 : Value) (x10 x11 : Int) (H : AHeap) : Prop :=
  idxK x9 x11 2 (fun b1 o2 => ldI .i64 H b1 o2 (fun v3 => ldI .i64 H b1 (o2 + 1) (fun v4 => newK H [(Value.int .i64 0), (Value.int .i64 0)] 78 (fun b5 H6 => stK H6 b5 0 [(Value.int .i64 v3), (Value.int .i64 v4)] (fun H7 => B5 P N2 x1 x5 x11 b5 x9 x10 x11 H7)))))
theorem q6 (P : PT) (N2 : NTy k1 Pr) : QB Tryz.prog T0 25 o6 (En 25 k3 (B5 P N2)) k1 (B6 P N2) := fun _ _ _ _ _ _ _  => by kernel_rfl
noncomputable def o7 := ob Tryz.f161 [.r,.r,.l,.r,.l,.l,.l]
def B7 (P : PT) (N2 : NTy k1 Pr) (x1 : Int) (x5 x9 : Value) (x10 x11 : Int) (H : AHeap) : Prop :=
  pif (decide ((x11 : Int) < x10)) (B6 P N2 x1 x5 x9 x10 x11 H) (B1 P x5 H)
theorem q7 (P : PT) (N2 : NTy k1 Pr) : QB Tryz.prog T0 25 o7 (cnd 12 (En 25 k1 (B6 P N2)) (En 25 k0 (B1 P))) k1 (B7 P N2) := fun _ _ _ _ _ _ _  => by kernel_rfl
def L2 (P : PT) (x1 : Int) (x5 x9 : Value) (x10 x11 : Int) (H : AHeap) : Prop :=
  ∃ (I : NTy k1 Pr) (μ : NTy k1 (AHeap → Nat)), I x1 x5 x9 x10 x11 H ∧ ∀ y1 y5 y9 y10 y11 G, I y1 y5 y9 y10 y11 G → B7 P (fun z1 z5 z9 z10 z11 G' => I z1 z5 z9 z10 z11 G' ∧ μ z1 z5 z9 z10 z11 G' < μ y1 y5 y9 y10 y11 G) y1 y5 y9 y10 y11 G
theorem l2 (P : PT) : LQ k1 (L2 P) (B7 P) := fun ⟨_,_,_,_,_,_⟩ _ ⟨I, μ, h0, hI⟩ => ⟨apT _ I, apT _ μ, h0, fun ⟨_,_,_,_,_,_⟩ _ h => hI _ _ _ _ _ _  h⟩
abbrev k4 : Sk := [(1,.i .i64),(2,.x),(5,.v)]
noncomputable def o8 := ob Tryz.f161 [.r,.r,.l,.l]
def B8 (P : PT) (x1 : Int) (x2 : Nat) (x5 : Value) (H : AHeap) : Prop :=
  ld1 H x2 1 (fun v1 => lenK v1 (fun n2 => L2 P x1 x5 v1 (n2 : Int) 0 H))
theorem q8 (P : PT) : QB Tryz.prog T0 25 o8 (En 25 k1 (L2 P)) k4 (B8 P) := fun _ _ _ _ _  => by kernel_rfl
abbrev k5 : Sk := [(1,.i .i64),(2,.x)]
noncomputable def o9 := ob Tryz.f161 [.r,.l]
def B9 (P : PT) (x1 : Int) (x2 : Nat) (H : AHeap) : Prop :=
  B8 P x1 x2 (Value.slice none 0 0) H
theorem q9 (P : PT) : QB Tryz.prog T0 25 o9 (En 25 k4 (B8 P)) k5 (B9 P) := fun _ _ _ _  => by kernel_rfl
abbrev k6 : Sk := [(0,.g [.i,.v]),(1,.i .i64)]
noncomputable def o10 := ob Tryz.f161 [.l]
def B10 (P : PT) (x0a : Int) (x0b : Value) (x1 : Int) (H : AHeap) : Prop :=
  newK H [(Value.int .i64 x0a), x0b] 26 (fun b1 H2 => B9 P x1 b1 H2)
theorem q10 (P : PT) : QB Tryz.prog T0 25 o10 (En 25 k5 (B9 P)) k6 (B10 P) := fun _ _ _ _ _  => by kernel_rfl
noncomputable def code : Code := (.seq (.region 0 ⟨o10⟩ false) (.seq (.region 1 ⟨o9⟩ false) (.seq (.seq (.region 2 ⟨o8⟩ false) (.block 0 (.loop (.seq (.region 3 ⟨o7⟩ false) (.seq (.cond (.tmp 12) .skip (.exit 0)) (.seq (.block 1 (.seq (.region 4 ⟨o6⟩ false) (.seq (.region 5 ⟨o5⟩ false) (.cond (.tmp 18) (.region 6 ⟨o4⟩ false) .skip)))) (.region 7 ⟨o3⟩ false))))))) (.seq (.region 8 ⟨o1⟩ false) .ret))))
theorem body : Tryz.f161.body = some code := by kernel_rfl
theorem main (P : PT) : ∀ env H, (En 25 k6 (B10 P)) env H → AW Tryz.prog T0 code env H (mkQ (ret P) (fun _ _ _ => False) (ret P)) :=
  (r_seq (rB T0_ok (q10 P)) (r_seq (rB T0_ok (q9 P)) (r_seq (r_seq (rB T0_ok (q8 P)) (r_block (rL (l2 P) (fun N2 => (r_seq (rB T0_ok (q7 P N2)) (r_seq (r_cond rfl r_skip (r_exit (fun _ _ h => h))) (r_seq (r_block (r_seq (rB T0_ok (q6 P N2)) (r_seq (rB T0_ok (q5 P N2)) (r_cond rfl (rB T0_ok (q4 P N2)) r_skip)))) (rB T0_ok (q3 P N2))))))))) (r_seq (rB T0_ok (q1 P)) r_ret))))
theorem ac (P : PT) (x0a : Int) (x0b : Value) (x1 : Int) (H : AHeap) (h : B10 P x0a x0b x1 H) : AC Tryz.prog T0 161 [(Value.agg ⟨[(Value.int .i64 x0a), x0b]⟩), (Value.int .i64 x1)] H P :=
  r_fn T0_ok (c := code) (n := 25) Tryz.func161 body (by kernel_rfl) (main P) (En_mk (x0a, x0b, x1, ()) (by kernel_rfl) ⟨by kernel_rfl, by kernel_rfl, trivial⟩ h)

end F161
-- cmp.Compare[int64]
namespace F169
noncomputable def ret (P : PT) : EP := retE T0 20 Tryz.f169 P
abbrev k0 : Sk := []
noncomputable def o1 := ob Tryz.f169 [.r,.r,.r,.r,.r,.r,.r,.l]
def B1 (P : PT) (H : AHeap) : Prop :=
  P (Value.int .i64 0) H
theorem q1 (P : PT) : QB Tryz.prog T0 20 o1 (ret P) k0 (B1 P) := fun _ _  => by kernel_rfl
noncomputable def o2 := ob Tryz.f169 [.r,.r,.r,.r,.r,.r,.l,.r,.l,.l]
def B2 (P : PT) (H : AHeap) : Prop :=
  P (Value.int .i64 1) H
theorem q2 (P : PT) : QB Tryz.prog T0 20 o2 (ret P) k0 (B2 P) := fun _ _  => by kernel_rfl
abbrev k1 : Sk := [(0,.i .i64),(1,.i .i64)]
noncomputable def o3 := ob Tryz.f169 [.r,.r,.r,.r,.r,.r,.l,.l]
def B3 (P : PT) (x0 x1 : Int) (H : AHeap) : Prop :=
  pif (decide ((x0 : Int) > x1)) (B2 P H) (B1 P H)
theorem q3 (P : PT) : QB Tryz.prog T0 20 o3 (cnd 19 (En 20 k0 (B2 P)) (En 20 k0 (B1 P))) k1 (B3 P) := fun _ _ _ _  => by kernel_rfl
noncomputable def o4 := ob Tryz.f169 [.r,.r,.r,.r,.r,.l,.r,.l,.l]
def B4 (P : PT) (H : AHeap) : Prop :=
  P (Value.int .i64 (-1)) H
theorem q4 (P : PT) : QB Tryz.prog T0 20 o4 (ret P) k0 (B4 P) := fun _ _  => by kernel_rfl
noncomputable def o5 := ob Tryz.f169 [.r,.r,.r,.r,.r,.l,.l]
def B5 (P : PT) (x0 x1 : Int) (H : AHeap) : Prop :=
  pif (decide ((x0 : Int) < x1)) (B4 P H) (B3 P x0 x1 H)
theorem q5 (P : PT) : QB Tryz.prog T0 20 o5 (cnd 16 (En 20 k0 (B4 P)) (En 20 k1 (B3 P))) k1 (B5 P) := fun _ _ _ _  => by kernel_rfl
noncomputable def o6 := ob Tryz.f169 [.r,.r,.r,.r,.l,.r,.l,.l]
def B6 (P : PT) (H : AHeap) : Prop :=
  P (Value.int .i64 1) H
theorem q6 (P : PT) : QB Tryz.prog T0 20 o6 (ret P) k0 (B6 P) := fun _ _  => by kernel_rfl
abbrev k2 : Sk := [(0,.i .i64),(1,.i .i64),(6,.b)]
noncomputable def o7 := ob Tryz.f169 [.r,.r,.r,.r,.l,.l]
def B7 (P : PT) (x0 x1 : Int) (x6 : Bool) (H : AHeap) : Prop :=
  pif x6 (B6 P H) (B5 P x0 x1 H)
theorem q7 (P : PT) : QB Tryz.prog T0 20 o7 (cnd 13 (En 20 k0 (B6 P)) (En 20 k1 (B5 P))) k2 (B7 P) := fun _ _ _ _ _  => by kernel_rfl
noncomputable def o8 := ob Tryz.f169 [.r,.r,.r,.l,.r,.l,.r,.l]
def B8 (P : PT) (H : AHeap) : Prop :=
  P (Value.int .i64 (-1)) H
theorem q8 (P : PT) : QB Tryz.prog T0 20 o8 (ret P) k0 (B8 P) := fun _ _  => by kernel_rfl
noncomputable def o9 := ob Tryz.f169 [.r,.r,.r,.l,.r,.l,.l,.r,.l,.l]
def B9 (P : PT) (H : AHeap) : Prop :=
  P (Value.int .i64 0) H
theorem q9 (P : PT) : QB Tryz.prog T0 20 o9 (ret P) k0 (B9 P) := fun _ _  => by kernel_rfl
abbrev k3 : Sk := [(6,.b)]
noncomputable def o10 := ob Tryz.f169 [.r,.r,.r,.l,.r,.l,.l,.l]
def B10 (P : PT) (x6 : Bool) (H : AHeap) : Prop :=
  pif x6 (B9 P H) (B8 P H)
theorem q10 (P : PT) : QB Tryz.prog T0 20 o10 (cnd 12 (En 20 k0 (B9 P)) (En 20 k0 (B8 P))) k3 (B10 P) := fun _ _ _  => by kernel_rfl
abbrev k4 : Sk := [(0,.i .i64),(1,.i .i64),(5,.b),(6,.b)]
noncomputable def o11 := ob Tryz.f169 [.r,.r,.r,.l,.l]
def B11 (P : PT) (x0 x1 : Int) (x5 x6 : Bool) (H : AHeap) : Prop :=
  pif x5 (B10 P x6 H) (B7 P x0 x1 x6 H)
theorem q11 (P : PT) : QB Tryz.prog T0 20 o11 (cnd 11 (En 20 k3 (B10 P)) (En 20 k2 (B7 P))) k4 (B11 P) := fun _ _ _ _ _ _  => by kernel_rfl
abbrev k5 : Sk := [(0,.i .i64),(1,.i .i64),(5,.b)]
noncomputable def o12 := ob Tryz.f169 [.r,.r,.l]
def B12 (P : PT) (x0 x1 : Int) (x5 : Bool) (H : AHeap) : Prop :=
  AC Tryz.prog T0 209 [(Value.int .i64 x1)] H (fun v1 H2 => asB v1 (fun v3 => B11 P x0 x1 x5 v3 H2))
theorem q12 (P : PT) : QB Tryz.prog T0 20 o12 (En 20 k4 (B11 P)) k5 (B12 P) := fun _ _ _ _ _  => by kernel_rfl
noncomputable def o13 := ob Tryz.f169 [.r,.l]
def B13 (P : PT) (x0 x1 : Int) (H : AHeap) : Prop :=
  AC Tryz.prog T0 209 [(Value.int .i64 x0)] H (fun v1 H2 => asB v1 (fun v3 => B12 P x0 x1 v3 H2))
theorem q13 (P : PT) : QB Tryz.prog T0 20 o13 (En 20 k5 (B12 P)) k1 (B13 P) := fun _ _ _ _  => by kernel_rfl
noncomputable def o14 := ob Tryz.f169 [.l]
def B14 (P : PT) (x0 x1 : Int) (H : AHeap) : Prop :=
  B13 P x0 x1 H
theorem q14 (P : PT) : QB Tryz.prog T0 20 o14 (En 20 k1 (B13 P)) k1 (B14 P) := fun _ _ _ _  => by kernel_rfl
noncomputable def code : Code := (.seq (.region 0 ⟨o14⟩ false) (.seq (.region 1 ⟨o13⟩ false) (.seq (.region 2 ⟨o12⟩ false) (.seq (.seq (.region 3 ⟨o11⟩ false) (.cond (.tmp 11) (.seq (.seq (.region 4 ⟨o10⟩ false) (.cond (.tmp 12) (.seq (.region 5 ⟨o9⟩ false) .ret) .skip)) (.seq (.region 6 ⟨o8⟩ false) .ret)) .skip)) (.seq (.seq (.region 7 ⟨o7⟩ false) (.cond (.tmp 13) (.seq (.region 8 ⟨o6⟩ false) .ret) .skip)) (.seq (.seq (.region 9 ⟨o5⟩ false) (.cond (.tmp 16) (.seq (.region 10 ⟨o4⟩ false) .ret) .skip)) (.seq (.seq (.region 11 ⟨o3⟩ false) (.cond (.tmp 19) (.seq (.region 12 ⟨o2⟩ false) .ret) .skip)) (.seq (.region 13 ⟨o1⟩ false) .ret))))))))
theorem body : Tryz.f169.body = some code := by kernel_rfl
theorem main (P : PT) : ∀ env H, (En 20 k1 (B14 P)) env H → AW Tryz.prog T0 code env H (mkQ (ret P) (fun _ _ _ => False) (ret P)) :=
  (r_seq (rB T0_ok (q14 P)) (r_seq (rB T0_ok (q13 P)) (r_seq (rB T0_ok (q12 P)) (r_seq (r_seq (rB T0_ok (q11 P)) (r_cond rfl (r_seq (r_seq (rB T0_ok (q10 P)) (r_cond rfl (r_seq (rB T0_ok (q9 P)) r_ret) r_skip)) (r_seq (rB T0_ok (q8 P)) r_ret)) r_skip)) (r_seq (r_seq (rB T0_ok (q7 P)) (r_cond rfl (r_seq (rB T0_ok (q6 P)) r_ret) r_skip)) (r_seq (r_seq (rB T0_ok (q5 P)) (r_cond rfl (r_seq (rB T0_ok (q4 P)) r_ret) r_skip)) (r_seq (r_seq (rB T0_ok (q3 P)) (r_cond rfl (r_seq (rB T0_ok (q2 P)) r_ret) r_skip)) (r_seq (rB T0_ok (q1 P)) r_ret))))))))
theorem ac (P : PT) (x0 x1 : Int) (H : AHeap) (h : B14 P x0 x1 H) : AC Tryz.prog T0 169 [(Value.int .i64 x0), (Value.int .i64 x1)] H P :=
  r_fn T0_ok (c := code) (n := 20) Tryz.func169 body (by kernel_rfl) (main P) (En_mk (x0, x1, ()) (by kernel_rfl) ⟨by kernel_rfl, by kernel_rfl, trivial⟩ h)

end F169
-- slices.Compare[[]int64,int64]
namespace F170
noncomputable def ret (P : PT) : EP := retE T0 36 Tryz.f170 P
abbrev k0 : Sk := []
noncomputable def o1 := ob Tryz.f170 [.r,.r,.r,.l]
def B1 (P : PT) (H : AHeap) : Prop :=
  P (Value.int .i64 0) H
theorem q1 (P : PT) : QB Tryz.prog T0 36 o1 (ret P) k0 (B1 P) := fun _ _  => by kernel_rfl
noncomputable def o2 := ob Tryz.f170 [.r,.r,.l,.r,.l,.l]
def B2 (P : PT) (H : AHeap) : Prop :=
  P (Value.int .i64 (-1)) H
theorem q2 (P : PT) : QB Tryz.prog T0 36 o2 (ret P) k0 (B2 P) := fun _ _  => by kernel_rfl
abbrev k1 : Sk := [(0,.v),(1,.v)]
noncomputable def o3 := ob Tryz.f170 [.r,.r,.l,.l]
def B3 (P : PT) (x0 x1 : Value) (H : AHeap) : Prop :=
  lenK x0 (fun n1 => lenK x1 (fun n2 => pif (decide (((n1 : Int) : Int) < (n2 : Int))) (B2 P H) (B1 P H)))
theorem q3 (P : PT) : QB Tryz.prog T0 36 o3 (cnd 35 (En 36 k0 (B2 P)) (En 36 k0 (B1 P))) k1 (B3 P) := fun _ _ _ _  => by kernel_rfl
abbrev k2 : Sk := [(0,.v),(1,.v),(9,.v),(10,.i .i64),(11,.i .i64)]
noncomputable def o5 := ob Tryz.f170 [.r,.l,.r,.l,.l,.r,.r,.r]
def B5 (P : PT) (N4 : NTy k2 Pr) (x0 x1 x9 : Value) (x10 x11 : Int) (H : AHeap) : Prop :=
  N4 x0 x1 x9 x10 (IntKind.i64.wrap (x11 + 1)) H
theorem q5 (P : PT) (N4 : NTy k2 Pr) : QB Tryz.prog T0 36 o5 (En 36 k2 N4) k2 (B5 P N4) := fun _ _ _ _ _ _ _  => by kernel_rfl
abbrev k3 : Sk := [(8,.i .i64)]
noncomputable def o6 := ob Tryz.f170 [.r,.l,.r,.l,.l,.r,.r,.l,.l,.r,.r,.r,.r,.r,.l,.l]
def B6 (P : PT) (N4 : NTy k2 Pr) (x8 : Int) (H : AHeap) : Prop :=
  P (Value.int .i64 x8) H
theorem q6 (P : PT) (N4 : NTy k2 Pr) : QB Tryz.prog T0 36 o6 (ret P) k3 (B6 P N4) := fun _ _ _  => by kernel_rfl
abbrev k4 : Sk := [(0,.v),(1,.v),(8,.i .i64),(9,.v),(10,.i .i64),(11,.i .i64)]
noncomputable def o7 := ob Tryz.f170 [.r,.l,.r,.l,.l,.r,.r,.l,.l,.r,.r,.r,.r,.l]
def B7 (P : PT) (N4 : NTy k2 Pr) (x0 x1 : Value) (x8 : Int) (x9 : Value) (x10 x11 : Int) (H : AHeap) : Prop :=
  pif ((x8 : Int) != 0) (B6 P N4 x8 H) (B5 P N4 x0 x1 x9 x10 x11 H)
theorem q7 (P : PT) (N4 : NTy k2 Pr) : QB Tryz.prog T0 36 o7 (cnd 28 (En 36 k3 (B6 P N4)) (En 36 k2 (B5 P N4))) k4 (B7 P N4) := fun _ _ _ _ _ _ _ _  => by kernel_rfl
abbrev k5 : Sk := [(0,.v),(1,.v),(6,.i .i64),(7,.i .i64),(9,.v),(10,.i .i64),(11,.i .i64)]
noncomputable def o8 := ob Tryz.f170 [.r,.l,.r,.l,.l,.r,.r,.l,.l,.r,.r,.r,.l]
def B8 (P : PT) (N4 : NTy k2 Pr) (x0 x1 : Value) (x6 x7 : Int) (x9 : Value) (x10 x11 : Int) (H : AHeap) : Prop :=
  AC Tryz.prog T0 169 [(Value.int .i64 x6), (Value.int .i64 x7)] H (fun v1 H2 => asI .i64 v1 (fun v3 => B7 P N4 x0 x1 v3 x9 x10 x11 H2))
theorem q8 (P : PT) (N4 : NTy k2 Pr) : QB Tryz.prog T0 36 o8 (En 36 k4 (B7 P N4)) k5 (B8 P N4) := fun _ _ _ _ _ _ _ _ _  => by kernel_rfl
abbrev k6 : Sk := [(0,.v),(1,.v),(5,.i .i64),(6,.i .i64),(9,.v),(10,.i .i64),(11,.i .i64)]
noncomputable def o9 := ob Tryz.f170 [.r,.l,.r,.l,.l,.r,.r,.l,.l,.r,.r,.l]
def B9 (P : PT) (N4 : NTy k2 Pr) (x0 x1 : Value) (x5 x6 : Int) (x9 : Value) (x10 x11 : Int) (H : AHeap) : Prop :=
  idxK x1 x5 1 (fun b1 o2 => ldI .i64 H b1 o2 (fun v3 => B8 P N4 x0 x1 x6 v3 x9 x10 x11 H))
theorem q9 (P : PT) (N4 : NTy k2 Pr) : QB Tryz.prog T0 36 o9 (En 36 k5 (B8 P N4)) k6 (B9 P N4) := fun _ _ _ _ _ _ _ _ _  => by kernel_rfl
noncomputable def o10 := ob Tryz.f170 [.r,.l,.r,.l,.l,.r,.r,.l,.l,.r,.l,.r,.l,.l]
def B10 (P : PT) (N4 : NTy k2 Pr) (H : AHeap) : Prop :=
  P (Value.int .i64 1) H
theorem q10 (P : PT) (N4 : NTy k2 Pr) : QB Tryz.prog T0 36 o10 (ret P) k0 (B10 P N4) := fun _ _  => by kernel_rfl
noncomputable def o11 := ob Tryz.f170 [.r,.l,.r,.l,.l,.r,.r,.l,.l,.r,.l,.l]
def B11 (P : PT) (N4 : NTy k2 Pr) (x0 x1 : Value) (x5 x6 : Int) (x9 : Value) (x10 x11 : Int) (H : AHeap) : Prop :=
  lenK x1 (fun n1 => pif (decide ((x5 : Int) ≥ (n1 : Int))) (B10 P N4 H) (B9 P N4 x0 x1 x5 x6 x9 x10 x11 H))
theorem q11 (P : PT) (N4 : NTy k2 Pr) : QB Tryz.prog T0 36 o11 (cnd 19 (En 36 k0 (B10 P N4)) (En 36 k6 (B9 P N4))) k6 (B11 P N4) := fun _ _ _ _ _ _ _ _ _  => by kernel_rfl
noncomputable def o12 := ob Tryz.f170 [.r,.l,.r,.l,.l,.r,.r,.l,.l,.l]
def B12 (P : PT) (N4 : NTy k2 Pr) (x0 x1 x9 : Value) (x10 x11 : Int) (H : AHeap) : Prop :=
  idxK x9 x11 1 (fun b1 o2 => ldI .i64 H b1 o2 (fun v3 => B11 P N4 x0 x1 x11 v3 x9 x10 x11 H))
theorem q12 (P : PT) (N4 : NTy k2 Pr) : QB Tryz.prog T0 36 o12 (En 36 k6 (B11 P N4)) k2 (B12 P N4) := fun _ _ _ _ _ _ _  => by kernel_rfl
noncomputable def o13 := ob Tryz.f170 [.r,.l,.r,.l,.l,.l]
def B13 (P : PT) (N4 : NTy k2 Pr) (x0 x1 x9 : Value) (x10 x11 : Int) (H : AHeap) : Prop :=
  pif (decide ((x11 : Int) < x10)) (B12 P N4 x0 x1 x9 x10 x11 H) (B3 P x0 x1 H)
theorem q13 (P : PT) (N4 : NTy k2 Pr) : QB Tryz.prog T0 36 o13 (cnd 12 (En 36 k2 (B12 P N4)) (En 36 k1 (B3 P))) k2 (B13 P N4) := fun _ _ _ _ _ _ _  => by kernel_rfl
def L4 (P : PT) (x0 x1 x9 : Value) (x10 x11 : Int) (H : AHeap) : Prop :=
  ∃ (I : NTy k2 Pr) (μ : NTy k2 (AHeap → Nat)), I x0 x1 x9 x10 x11 H ∧ ∀ y0 y1 y9 y10 y11 G, I y0 y1 y9 y10 y11 G → B13 P (fun z0 z1 z9 z10 z11 G' => I z0 z1 z9 z10 z11 G' ∧ μ z0 z1 z9 z10 z11 G' < μ y0 y1 y9 y10 y11 G) y0 y1 y9 y10 y11 G
theorem l4 (P : PT) : LQ k2 (L4 P) (B13 P) := fun ⟨_,_,_,_,_,_⟩ _ ⟨I, μ, h0, hI⟩ => ⟨apT _ I, apT _ μ, h0, fun ⟨_,_,_,_,_,_⟩ _ h => hI _ _ _ _ _ _  h⟩
noncomputable def o14 := ob Tryz.f170 [.r,.l,.l]
def B14 (P : PT) (x0 x1 : Value) (H : AHeap) : Prop :=
  lenK x0 (fun n1 => L4 P x0 x1 x0 (n1 : Int) 0 H)
theorem q14 (P : PT) : QB Tryz.prog T0 36 o14 (En 36 k2 (L4 P)) k1 (B14 P) := fun _ _ _ _  => by kernel_rfl
noncomputable def o15 := ob Tryz.f170 [.l]
def B15 (P : PT) (x0 x1 : Value) (H : AHeap) : Prop :=
  B14 P x0 x1 H
theorem q15 (P : PT) : QB Tryz.prog T0 36 o15 (En 36 k1 (B14 P)) k1 (B15 P) := fun _ _ _ _  => by kernel_rfl
noncomputable def code : Code := (.seq (.region 0 ⟨o15⟩ false) (.seq (.seq (.region 1 ⟨o14⟩ false) (.block 0 (.loop (.seq (.region 2 ⟨o13⟩ false) (.seq (.cond (.tmp 12) .skip (.exit 0)) (.seq (.block 1 (.seq (.region 3 ⟨o12⟩ false) (.seq (.seq (.region 4 ⟨o11⟩ false) (.cond (.tmp 19) (.seq (.region 5 ⟨o10⟩ false) .ret) .skip)) (.seq (.region 6 ⟨o9⟩ false) (.seq (.region 7 ⟨o8⟩ false) (.seq (.region 8 ⟨o7⟩ false) (.cond (.tmp 28) (.seq (.region 9 ⟨o6⟩ false) .ret) .skip))))))) (.region 10 ⟨o5⟩ false))))))) (.seq (.seq (.region 11 ⟨o3⟩ false) (.cond (.tmp 35) (.seq (.region 12 ⟨o2⟩ false) .ret) .skip)) (.seq (.region 13 ⟨o1⟩ false) .ret))))
theorem body : Tryz.f170.body = some code := by kernel_rfl
theorem main (P : PT) : ∀ env H, (En 36 k1 (B15 P)) env H → AW Tryz.prog T0 code env H (mkQ (ret P) (fun _ _ _ => False) (ret P)) :=
  (r_seq (rB T0_ok (q15 P)) (r_seq (r_seq (rB T0_ok (q14 P)) (r_block (rL (l4 P) (fun N4 => (r_seq (rB T0_ok (q13 P N4)) (r_seq (r_cond rfl r_skip (r_exit (fun _ _ h => h))) (r_seq (r_block (r_seq (rB T0_ok (q12 P N4)) (r_seq (r_seq (rB T0_ok (q11 P N4)) (r_cond rfl (r_seq (rB T0_ok (q10 P N4)) r_ret) r_skip)) (r_seq (rB T0_ok (q9 P N4)) (r_seq (rB T0_ok (q8 P N4)) (r_seq (rB T0_ok (q7 P N4)) (r_cond rfl (r_seq (rB T0_ok (q6 P N4)) r_ret) r_skip))))))) (rB T0_ok (q5 P N4))))))))) (r_seq (r_seq (rB T0_ok (q3 P)) (r_cond rfl (r_seq (rB T0_ok (q2 P)) r_ret) r_skip)) (r_seq (rB T0_ok (q1 P)) r_ret))))
theorem ac (P : PT) (x0 x1 : Value) (H : AHeap) (h : B15 P x0 x1 H) : AC Tryz.prog T0 170 [x0, x1] H P :=
  r_fn T0_ok (c := code) (n := 36) Tryz.func170 body (by kernel_rfl) (main P) (En_mk (x0, x1, ()) (by kernel_rfl) ⟨by kernel_rfl, by kernel_rfl, trivial⟩ h)

end F170
-- loop.example/g01329/spec.l01At
namespace F175
noncomputable def ret (P : PT) : EP := retE T0 38 Tryz.f175 P
abbrev k0 : Sk := [(5,.v)]
noncomputable def o1 := ob Tryz.f175 [.r,.r,.r,.l]
def B1 (P : PT) (x5 : Value) (H : AHeap) : Prop :=
  P x5 H
theorem q1 (P : PT) : QB Tryz.prog T0 38 o1 (ret P) k0 (B1 P) := fun _ _ _  => by kernel_rfl
abbrev k1 : Sk := [(1,.i .i64),(2,.x),(5,.v),(6,.i .i64)]
noncomputable def o3 := ob Tryz.f175 [.r,.r,.l,.r,.l,.l,.r,.r]
def B3 (P : PT) (N2 : NTy k1 Pr) (x1 : Int) (x2 : Nat) (x5 : Value) (x6 : Int) (H : AHeap) : Prop :=
  N2 x1 x2 x5 (IntKind.i64.wrap (x6 + 1)) H
theorem q3 (P : PT) (N2 : NTy k1 Pr) : QB Tryz.prog T0 38 o3 (En 38 k1 N2) k1 (B3 P N2) := fun _ _ _ _ _ _  => by kernel_rfl
noncomputable def o4 := ob Tryz.f175 [.r,.r,.l,.r,.l,.l,.r,.l,.l,.r,.l]
def B4 (P : PT) (N2 : NTy k1 Pr) (x1 : Int) (x2 : Nat) (x5 : Value) (x6 : Int) (H : AHeap) : Prop :=
  newK H [(Value.int .i64 x6)] 2 (fun b1 H2 => apK T0 2 H2 x5 (Value.slice (some ⟨b1, 0, none⟩) 1 (1 + 1)) (fun v3 H4 => B3 P N2 x1 x2 v3 x6 H4))
theorem q4 (P : PT) (N2 : NTy k1 Pr) : QB Tryz.prog T0 38 o4 (En 38 k1 (B3 P N2)) k1 (B4 P N2) := fun _ _ _ _ _ _  => by kernel_rfl
noncomputable def o5 := ob Tryz.f175 [.r,.r,.l,.r,.l,.l,.r,.l,.l,.l]
def B5 (P : PT) (N2 : NTy k1 Pr) (x1 : Int) (x2 : Nat) (x5 : Value) (x6 : Int) (H : AHeap) : Prop :=
  ld1 H x2 1 (fun v1 => idxK v1 x6 2 (fun b2 o3 => ldI .i64 H b2 o3 (fun v4 => pif ((v4 : Int) == x1) (B4 P N2 x1 x2 x5 x6 H) (ld1 H x2 1 (fun v5 => idxK v5 x6 2 (fun b6 o7 => ldI .i64 H b6 (o7 + 1) (fun v8 => pif ((v8 : Int) == x1) (B4 P N2 x1 x2 x5 x6 H) (B3 P N2 x1 x2 x5 x6 H))))))))
theorem q5 (P : PT) (N2 : NTy k1 Pr) : QB Tryz.prog T0 38 o5 (cnd 32 (En 38 k1 (B4 P N2)) (En 38 k1 (B3 P N2))) k1 (B5 P N2) := fun _ _ _ _ _ _  => by kernel_rfl
noncomputable def o6 := ob Tryz.f175 [.r,.r,.l,.r,.l,.l,.l,.l]
def B6 (P : PT) (N2 : NTy k1 Pr) (x1 : Int) (x2 : Nat) (x5 : Value) (x6 : Int) (H : AHeap) : Prop :=
  ld1 H x2 1 (fun v1 => lenK v1 (fun n2 => pif (decide ((x6 : Int) < (n2 : Int))) (B5 P N2 x1 x2 x5 x6 H) (B1 P x5 H)))
theorem q6 (P : PT) (N2 : NTy k1 Pr) : QB Tryz.prog T0 38 o6 (cnd 12 (En 38 k1 (B5 P N2)) (En 38 k0 (B1 P))) k1 (B6 P N2) := fun _ _ _ _ _ _  => by kernel_rfl
def L2 (P : PT) (x1 : Int) (x2 : Nat) (x5 : Value) (x6 : Int) (H : AHeap) : Prop :=
  ∃ (I : NTy k1 Pr) (μ : NTy k1 (AHeap → Nat)), I x1 x2 x5 x6 H ∧ ∀ y1 y2 y5 y6 G, I y1 y2 y5 y6 G → B6 P (fun z1 z2 z5 z6 G' => I z1 z2 z5 z6 G' ∧ μ z1 z2 z5 z6 G' < μ y1 y2 y5 y6 G) y1 y2 y5 y6 G
theorem l2 (P : PT) : LQ k1 (L2 P) (B6 P) := fun ⟨_,_,_,_,_⟩ _ ⟨I, μ, h0, hI⟩ => ⟨apT _ I, apT _ μ, h0, fun ⟨_,_,_,_,_⟩ _ h => hI _ _ _ _ _  h⟩
abbrev k2 : Sk := [(1,.i .i64),(2,.x),(5,.v)]
noncomputable def o7 := ob Tryz.f175 [.r,.r,.l,.l]
def B7 (P : PT) (x1 : Int) (x2 : Nat) (x5 : Value) (H : AHeap) : Prop :=
  L2 P x1 x2 x5 0 H
theorem q7 (P : PT) : QB Tryz.prog T0 38 o7 (En 38 k1 (L2 P)) k2 (B7 P) := fun _ _ _ _ _  => by kernel_rfl
abbrev k3 : Sk := [(1,.i .i64),(2,.x)]
noncomputable def o8 := ob Tryz.f175 [.r,.l]
def B8 (P : PT) (x1 : Int) (x2 : Nat) (H : AHeap) : Prop :=
  newK H [] 2 (fun b1 H2 => B7 P x1 x2 (Value.slice (some ⟨b1, 0, none⟩) 0 (0 + 1)) H2)
theorem q8 (P : PT) : QB Tryz.prog T0 38 o8 (En 38 k2 (B7 P)) k3 (B8 P) := fun _ _ _ _  => by kernel_rfl
abbrev k4 : Sk := [(0,.g [.i,.v]),(1,.i .i64)]
noncomputable def o9 := ob Tryz.f175 [.l]
def B9 (P : PT) (x0a : Int) (x0b : Value) (x1 : Int) (H : AHeap) : Prop :=
  newK H [(Value.int .i64 x0a), x0b] 26 (fun b1 H2 => B8 P x1 b1 H2)
theorem q9 (P : PT) : QB Tryz.prog T0 38 o9 (En 38 k3 (B8 P)) k4 (B9 P) := fun _ _ _ _ _  => by kernel_rfl
noncomputable def code : Code := (.seq (.region 0 ⟨o9⟩ false) (.seq (.region 1 ⟨o8⟩ false) (.seq (.seq (.region 2 ⟨o7⟩ false) (.block 0 (.loop (.seq (.seq (.region 3 ⟨o6⟩ false) (.cond (.tmp 12) .skip (.exit 0))) (.seq (.block 1 (.seq (.region 5 ⟨o5⟩ false) (.cond (.tmp 32) (.region 6 ⟨o4⟩ false) .skip))) (.region 4 ⟨o3⟩ false)))))) (.seq (.region 7 ⟨o1⟩ false) .ret))))
theorem body : Tryz.f175.body = some code := by kernel_rfl
theorem main (P : PT) : ∀ env H, (En 38 k4 (B9 P)) env H → AW Tryz.prog T0 code env H (mkQ (ret P) (fun _ _ _ => False) (ret P)) :=
  (r_seq (rB T0_ok (q9 P)) (r_seq (rB T0_ok (q8 P)) (r_seq (r_seq (rB T0_ok (q7 P)) (r_block (rL (l2 P) (fun N2 => (r_seq (r_seq (rB T0_ok (q6 P N2)) (r_cond rfl r_skip (r_exit (fun _ _ h => h)))) (r_seq (r_block (r_seq (rB T0_ok (q5 P N2)) (r_cond rfl (rB T0_ok (q4 P N2)) r_skip))) (rB T0_ok (q3 P N2)))))))) (r_seq (rB T0_ok (q1 P)) r_ret))))
theorem ac (P : PT) (x0a : Int) (x0b : Value) (x1 : Int) (H : AHeap) (h : B9 P x0a x0b x1 H) : AC Tryz.prog T0 175 [(Value.agg ⟨[(Value.int .i64 x0a), x0b]⟩), (Value.int .i64 x1)] H P :=
  r_fn T0_ok (c := code) (n := 38) Tryz.func175 body (by kernel_rfl) (main P) (En_mk (x0a, x0b, x1, ()) (by kernel_rfl) ⟨by kernel_rfl, by kernel_rfl, trivial⟩ h)

end F175
-- loop.example/g01329/spec.l01Sort
namespace F182
noncomputable def ret (P : PT) : EP := retE T0 69 Tryz.f182 P
abbrev k0 : Sk := [(3,.v)]
noncomputable def o1 := ob Tryz.f182 [.r,.r,.r,.l]
def B1 (P : PT) (x3 : Value) (H : AHeap) : Prop :=
  P x3 H
theorem q1 (P : PT) : QB Tryz.prog T0 69 o1 (ret P) k0 (B1 P) := fun _ _ _  => by kernel_rfl
abbrev k1 : Sk := [(0,.v),(3,.v),(4,.i .i64)]
noncomputable def o3 := ob Tryz.f182 [.r,.r,.l,.r,.l,.l,.r,.r]
def B3 (P : PT) (N2 : NTy k1 Pr) (x0 x3 : Value) (x4 : Int) (H : AHeap) : Prop :=
  N2 x0 x3 (IntKind.i64.wrap (x4 + 1)) H
theorem q3 (P : PT) (N2 : NTy k1 Pr) : QB Tryz.prog T0 69 o3 (En 69 k1 N2) k1 (B3 P N2) := fun _ _ _ _ _  => by kernel_rfl
abbrev k2 : Sk := [(0,.v),(3,.v),(4,.i .i64),(5,.x),(6,.i .i64)]
noncomputable def o4 := ob Tryz.f182 [.r,.r,.l,.r,.l,.l,.r,.l,.l,.r,.r,.r]
def B4 (P : PT) (N2 : NTy k1 Pr) (x0 x3 : Value) (x4 : Int) (x5 : Nat) (x6 : Int) (H : AHeap) : Prop :=
  ldI .i64 H x5 0 (fun v1 => ldI .i64 H x5 1 (fun v2 => idxK x3 x6 2 (fun b3 o4 => stK H b3 o4 [(Value.int .i64 v1), (Value.int .i64 v2)] (fun H5 => B3 P N2 x0 x3 x4 H5))))
theorem q4 (P : PT) (N2 : NTy k1 Pr) : QB Tryz.prog T0 69 o4 (En 69 k1 (B3 P N2)) k2 (B4 P N2) := fun _ _ _ _ _ _ _  => by kernel_rfl
noncomputable def o6 := ob Tryz.f182 [.r,.r,.l,.r,.l,.l,.r,.l,.l,.r,.r,.l,.l,.l,.r,.l,.r]
def B6 (P : PT) (N2 : NTy k1 Pr) (N5 : NTy k2 Pr) (x0 x3 : Value) (x4 : Int) (x5 : Nat) (x6 : Int) (H : AHeap) : Prop :=
  N5 x0 x3 x4 x5 (IntKind.i64.wrap (x6 - 1)) H
theorem q6 (P : PT) (N2 : NTy k1 Pr) (N5 : NTy k2 Pr) : QB Tryz.prog T0 69 o6 (En 69 k2 N5) k2 (B6 P N2 N5) := fun _ _ _ _ _ _ _  => by kernel_rfl
noncomputable def o7 := ob Tryz.f182 [.r,.r,.l,.r,.l,.l,.r,.l,.l,.r,.r,.l,.l,.l,.r,.l,.l]
def B7 (P : PT) (N2 : NTy k1 Pr) (N5 : NTy k2 Pr) (x0 x3 : Value) (x4 : Int) (x5 : Nat) (x6 : Int) (H : AHeap) : Prop :=
  idxK x3 (IntKind.i64.wrap (x6 - 1)) 2 (fun b1 o2 => ldI .i64 H b1 o2 (fun v3 => ldI .i64 H b1 (o2 + 1) (fun v4 => idxK x3 x6 2 (fun b5 o6 => stK H b5 o6 [(Value.int .i64 v3), (Value.int .i64 v4)] (fun H7 => B6 P N2 N5 x0 x3 x4 x5 x6 H7)))))
theorem q7 (P : PT) (N2 : NTy k1 Pr) (N5 : NTy k2 Pr) : QB Tryz.prog T0 69 o7 (En 69 k2 (B6 P N2 N5)) k2 (B7 P N2 N5) := fun _ _ _ _ _ _ _  => by kernel_rfl
noncomputable def o8 := ob Tryz.f182 [.r,.r,.l,.r,.l,.l,.r,.l,.l,.r,.r,.l,.l,.l,.l,.l]
def B8 (P : PT) (N2 : NTy k1 Pr) (N5 : NTy k2 Pr) (x0 x3 : Value) (x4 : Int) (x5 : Nat) (x6 : Int) (H : AHeap) : Prop :=
  pif (decide ((x6 : Int) > 0)) (ldI .i64 H x5 0 (fun v1 => ldI .i64 H x5 1 (fun v2 => idxK x3 (IntKind.i64.wrap (x6 - 1)) 2 (fun b3 o4 => ldI .i64 H b3 o4 (fun v5 => ldI .i64 H b3 (o4 + 1) (fun v6 => AC Tryz.prog T0 146 [(Value.agg ⟨[(Value.int .i64 v1), (Value.int .i64 v2)]⟩), (Value.agg ⟨[(Value.int .i64 v5), (Value.int .i64 v6)]⟩)] H (fun v7 H8 => asB v7 (fun v9 => pif v9 (B7 P N2 N5 x0 x3 x4 x5 x6 H8) (B4 P N2 x0 x3 x4 x5 x6 H8))))))))) (B4 P N2 x0 x3 x4 x5 x6 H)
theorem q8 (P : PT) (N2 : NTy k1 Pr) (N5 : NTy k2 Pr) : QD Tryz.prog T0 69 o8 [(0, false), (1, false), (2, false), (3, false), (4, false), (5, false), (6, false), (7, false), (8, false), (9, false), (10, false)] (cnd 53 (En 69 k2 (B7 P N2 N5)) (En 69 k2 (B4 P N2))) k2 (B8 P N2 N5) := fun _ _ _ _ _ _ _  => by kernel_rfl
def L5 (P : PT) (N2 : NTy k1 Pr) (x0 x3 : Value) (x4 : Int) (x5 : Nat) (x6 : Int) (H : AHeap) : Prop :=
  ∃ (I : NTy k2 Pr) (μ : NTy k2 (AHeap → Nat)), I x0 x3 x4 x5 x6 H ∧ ∀ y0 y3 y4 y5 y6 G, I y0 y3 y4 y5 y6 G → B8 P N2 (fun z0 z3 z4 z5 z6 G' => I z0 z3 z4 z5 z6 G' ∧ μ z0 z3 z4 z5 z6 G' < μ y0 y3 y4 y5 y6 G) y0 y3 y4 y5 y6 G
theorem l5 (P : PT) (N2 : NTy k1 Pr) : LQ k2 (L5 P N2) (B8 P N2) := fun ⟨_,_,_,_,_,_⟩ _ ⟨I, μ, h0, hI⟩ => ⟨apT _ I, apT _ μ, h0, fun ⟨_,_,_,_,_,_⟩ _ h => hI _ _ _ _ _ _  h⟩
noncomputable def o9 := ob Tryz.f182 [.r,.r,.l,.r,.l,.l,.r,.l,.l,.r,.l]
def B9 (P : PT) (N2 : NTy k1 Pr) (x0 x3 : Value) (x4 : Int) (x5 : Nat) (x6 : Int) (H : AHeap) : Prop :=
  ldI .i64 H x5 0 (fun v1 => ldI .i64 H x5 1 (fun v2 => newK H [(Value.int .i64 v1), (Value.int .i64 v2)] 78 (fun b3 H4 => apK T0 78 H4 x3 (Value.slice (some ⟨b3, 0, none⟩) 1 (1 + 1)) (fun v5 H6 => L5 P N2 x0 v5 x4 x5 x6 H6))))
theorem q9 (P : PT) (N2 : NTy k1 Pr) : QB Tryz.prog T0 69 o9 (En 69 k2 (L5 P N2)) k2 (B9 P N2) := fun _ _ _ _ _ _ _  => by kernel_rfl
noncomputable def o10 := ob Tryz.f182 [.r,.r,.l,.r,.l,.l,.r,.l,.l,.l]
def B10 (P : PT) (N2 : NTy k1 Pr) (x0 x3 : Value) (x4 : Int) (H : AHeap) : Prop :=
  idxK x0 x4 2 (fun b1 o2 => ldI .i64 H b1 o2 (fun v3 => idxK x0 x4 2 (fun b4 o5 => ldI .i64 H b4 (o5 + 1) (fun v6 => idxK x0 x4 2 (fun b7 o8 => ldI .i64 H b7 o8 (fun v9 => idxK x0 x4 2 (fun b10 o11 => ldI .i64 H b10 (o11 + 1) (fun v12 => lenK x3 (fun n13 => newK H [(Value.int .i64 0), (Value.int .i64 0)] 78 (fun b14 H15 => stK H15 b14 0 [(Value.int .i64 (if v6 < v3 then v6 else v3)), (Value.int .i64 (if v12 > v9 then v12 else v9))] (fun H16 => B9 P N2 x0 x3 x4 b14 (n13 : Int) H16)))))))))))
theorem q10 (P : PT) (N2 : NTy k1 Pr) : QD Tryz.prog T0 69 o10 [(0, false), (1, false), (2, false), (3, false), (4, false), (5, false), (6, false), (7, false), (8, false), (9, false), (10, false), (11, false), (12, false), (13, false), (14, false), (15, false), (16, false), (17, false), (18, false), (19, false), (20, false), (21, false), (22, false), (23, false), (24, false), (25, false), (26, false), (27, false)] (En 69 k2 (B9 P N2)) k1 (B10 P N2) := fun _ _ _ _ _  => by kernel_rfl
noncomputable def o11 := ob Tryz.f182 [.r,.r,.l,.r,.l,.l,.l,.l]
def B11 (P : PT) (N2 : NTy k1 Pr) (x0 x3 : Value) (x4 : Int) (H : AHeap) : Prop :=
  lenK x0 (fun n1 => pif (decide ((x4 : Int) < (n1 : Int))) (B10 P N2 x0 x3 x4 H) (B1 P x3 H))
theorem q11 (P : PT) (N2 : NTy k1 Pr) : QB Tryz.prog T0 69 o11 (cnd 11 (En 69 k1 (B10 P N2)) (En 69 k0 (B1 P))) k1 (B11 P N2) := fun _ _ _ _ _  => by kernel_rfl
def L2 (P : PT) (x0 x3 : Value) (x4 : Int) (H : AHeap) : Prop :=
  ∃ (I : NTy k1 Pr) (μ : NTy k1 (AHeap → Nat)), I x0 x3 x4 H ∧ ∀ y0 y3 y4 G, I y0 y3 y4 G → B11 P (fun z0 z3 z4 G' => I z0 z3 z4 G' ∧ μ z0 z3 z4 G' < μ y0 y3 y4 G) y0 y3 y4 G
theorem l2 (P : PT) : LQ k1 (L2 P) (B11 P) := fun ⟨_,_,_,_⟩ _ ⟨I, μ, h0, hI⟩ => ⟨apT _ I, apT _ μ, h0, fun ⟨_,_,_,_⟩ _ h => hI _ _ _ _  h⟩
abbrev k3 : Sk := [(0,.v),(3,.v)]
noncomputable def o12 := ob Tryz.f182 [.r,.r,.l,.l]
def B12 (P : PT) (x0 x3 : Value) (H : AHeap) : Prop :=
  L2 P x0 x3 0 H
theorem q12 (P : PT) : QB Tryz.prog T0 69 o12 (En 69 k1 (L2 P)) k3 (B12 P) := fun _ _ _ _  => by kernel_rfl
abbrev k4 : Sk := [(0,.v)]
noncomputable def o13 := ob Tryz.f182 [.r,.l]
def B13 (P : PT) (x0 : Value) (H : AHeap) : Prop :=
  newK H [] 78 (fun b1 H2 => B12 P x0 (Value.slice (some ⟨b1, 0, none⟩) 0 (0 + 1)) H2)
theorem q13 (P : PT) : QB Tryz.prog T0 69 o13 (En 69 k3 (B12 P)) k4 (B13 P) := fun _ _ _  => by kernel_rfl
noncomputable def o14 := ob Tryz.f182 [.l]
def B14 (P : PT) (x0 : Value) (H : AHeap) : Prop :=
  B13 P x0 H
theorem q14 (P : PT) : QB Tryz.prog T0 69 o14 (En 69 k4 (B13 P)) k4 (B14 P) := fun _ _ _  => by kernel_rfl
noncomputable def code : Code := (.seq (.region 0 ⟨o14⟩ false) (.seq (.region 1 ⟨o13⟩ false) (.seq (.seq (.region 2 ⟨o12⟩ false) (.block 0 (.loop (.seq (.seq (.region 3 ⟨o11⟩ false) (.cond (.tmp 11) .skip (.exit 0))) (.seq (.block 1 (.seq (.region 5 ⟨o10⟩ true) (.seq (.region 6 ⟨o9⟩ false) (.seq (.block 2 (.loop (.seq (.seq (.region 7 ⟨o8⟩ true) (.cond (.tmp 53) .skip (.exit 2))) (.block 3 (.seq (.region 8 ⟨o7⟩ false) (.region 9 ⟨o6⟩ false)))))) (.region 10 ⟨o4⟩ false))))) (.region 4 ⟨o3⟩ false)))))) (.seq (.region 11 ⟨o1⟩ false) .ret))))
theorem body : Tryz.f182.body = some code := by kernel_rfl
theorem main (P : PT) : ∀ env H, (En 69 k4 (B14 P)) env H → AW Tryz.prog T0 code env H (mkQ (ret P) (fun _ _ _ => False) (ret P)) :=
  (r_seq (rB T0_ok (q14 P)) (r_seq (rB T0_ok (q13 P)) (r_seq (r_seq (rB T0_ok (q12 P)) (r_block (rL (l2 P) (fun N2 => (r_seq (r_seq (rB T0_ok (q11 P N2)) (r_cond rfl r_skip (r_exit (fun _ _ h => h)))) (r_seq (r_block (r_seq (rD T0_ok mixed [(0, false), (1, false), (2, false), (3, false), (4, false), (5, false), (6, false), (7, false), (8, false), (9, false), (10, false), (11, false), (12, false), (13, false), (14, false), (15, false), (16, false), (17, false), (18, false), (19, false), (20, false), (21, false), (22, false), (23, false), (24, false), (25, false), (26, false), (27, false)] (by kernel_rfl) (q10 P N2)) (r_seq (rB T0_ok (q9 P N2)) (r_seq (r_block (rL (l5 P N2) (fun N5 => (r_seq (r_seq (rD T0_ok mixed [(0, false), (1, false), (2, false), (3, false), (4, false), (5, false), (6, false), (7, false), (8, false), (9, false), (10, false)] (by kernel_rfl) (q8 P N2 N5)) (r_cond rfl r_skip (r_exit (fun _ _ h => h)))) (r_block (r_seq (rB T0_ok (q7 P N2 N5)) (rB T0_ok (q6 P N2 N5)))))))) (rB T0_ok (q4 P N2)))))) (rB T0_ok (q3 P N2)))))))) (r_seq (rB T0_ok (q1 P)) r_ret))))
theorem ac (P : PT) (x0 : Value) (H : AHeap) (h : B14 P x0 H) : AC Tryz.prog T0 182 [x0] H P :=
  r_fn T0_ok (c := code) (n := 69) Tryz.func182 body (by kernel_rfl) (main P) (En_mk (x0, ()) (by kernel_rfl) ⟨by kernel_rfl, trivial⟩ h)

end F182
-- loop.example/g01329/impl.areEdges
namespace F183
noncomputable def ret (P : PT) : EP := retE T0 20 Tryz.f183 P
abbrev k0 : Sk := [(1,.v),(2,.x)]
noncomputable def o1 := ob Tryz.f183 [.r,.l]
def B1 (P : PT) (x1 : Value) (x2 : Nat) (H : AHeap) : Prop :=
  ldI .i64 H x2 0 (fun v1 => AC Tryz.prog T0 214 [(Value.int .i64 v1)] H (fun v2 H3 => asB v2 (fun v4 => pif v4 (ldI .i64 H3 x2 0 (fun v5 => AC Tryz.prog T0 73 [x1] H3 (fun v6 H7 => asI .i64 v6 (fun v8 => (AHeap.le H3 H7) ∧ (pif ((v8 : Int) == (IntKind.i64.wrap (Int.tdiv (IntKind.i64.wrap (3 * v5)) 2))) (AC Tryz.prog T0 184 [x1, (Value.func (.func 215) ⟨[]⟩ ⟨[(Value.pointer (some ⟨x2, 0, none⟩))]⟩)] H7 (fun v9 H10 => asB v9 (fun v11 => P (Value.bool v11) H10))) (P (Value.bool false) H7)))))) (P (Value.bool false) H3))))
theorem q1 (P : PT) : QD Tryz.prog T0 20 o1 [(0, false), (1, false), (2, false), (3, false), (5, false), (6, false), (7, false), (4, true), (8, false), (9, false), (10, false), (11, false), (12, false), (13, false), (14, false), (15, false)] (ret P) k0 (B1 P) := fun _ _ _ _  => by kernel_rfl
abbrev k1 : Sk := [(0,.i .i64),(1,.v)]
noncomputable def o2 := ob Tryz.f183 [.l]
def B2 (P : PT) (x0 : Int) (x1 : Value) (H : AHeap) : Prop :=
  newK H [(Value.int .i64 x0)] 2 (fun b1 H2 => B1 P x1 b1 H2)
theorem q2 (P : PT) : QB Tryz.prog T0 20 o2 (En 20 k0 (B1 P)) k1 (B2 P) := fun _ _ _ _  => by kernel_rfl
noncomputable def code : Code := (.seq (.region 0 ⟨o2⟩ false) (.seq (.region 1 ⟨o1⟩ true) .ret))
theorem body : Tryz.f183.body = some code := by kernel_rfl
theorem main (P : PT) : ∀ env H, (En 20 k1 (B2 P)) env H → AW Tryz.prog T0 code env H (mkQ (ret P) (fun _ _ _ => False) (ret P)) :=
  (r_seq (rB T0_ok (q2 P)) (r_seq (rD T0_ok mixed [(0, false), (1, false), (2, false), (3, false), (5, false), (6, false), (7, false), (4, true), (8, false), (9, false), (10, false), (11, false), (12, false), (13, false), (14, false), (15, false)] (by kernel_rfl) (q1 P)) r_ret))
theorem ac (P : PT) (x0 : Int) (x1 : Value) (H : AHeap) (h : B2 P x0 x1 H) : AC Tryz.prog T0 183 [(Value.int .i64 x0), x1] H P :=
  r_fn T0_ok (c := code) (n := 20) Tryz.func183 body (by kernel_rfl) (main P) (En_mk (x0, x1, ()) (by kernel_rfl) ⟨by kernel_rfl, by kernel_rfl, trivial⟩ h)

end F183
-- loop.example/g01329/impl.areAll[loop.example/g01329/impl.Edge]
namespace F184
noncomputable def ret (P : PT) : EP := retE T0 9 Tryz.f184 P
abbrev k0 : Sk := [(0,.v),(3,.x)]
noncomputable def o1 := ob Tryz.f184 [.r,.l]
def B1 (P : PT) (x0 : Value) (x3 : Nat) (H : AHeap) : Prop :=
  AC Tryz.prog T0 216 [x0, (Value.func (.func 217) ⟨[]⟩ ⟨[(Value.pointer (some ⟨x3, 0, none⟩))]⟩)] H (fun v1 H2 => asB v1 (fun v3 => P (Value.bool (!v3)) H2))
theorem q1 (P : PT) : QB Tryz.prog T0 9 o1 (ret P) k0 (B1 P) := fun _ _ _ _  => by kernel_rfl
abbrev k1 : Sk := [(0,.v),(1,.v)]
noncomputable def o2 := ob Tryz.f184 [.l]
def B2 (P : PT) (x0 x1 : Value) (H : AHeap) : Prop :=
  pif (Value.oneCell' x1) (newK H [x1] 166 (fun b1 H2 => B1 P x0 b1 H2)) False
theorem q2 (P : PT) : QB Tryz.prog T0 9 o2 (En 9 k0 (B1 P)) k1 (B2 P) := fun _ _ _ _  => by kernel_rfl
noncomputable def code : Code := (.seq (.region 0 ⟨o2⟩ false) (.seq (.region 1 ⟨o1⟩ false) .ret))
theorem body : Tryz.f184.body = some code := by kernel_rfl
theorem main (P : PT) : ∀ env H, (En 9 k1 (B2 P)) env H → AW Tryz.prog T0 code env H (mkQ (ret P) (fun _ _ _ => False) (ret P)) :=
  (r_seq (rB T0_ok (q2 P)) (r_seq (rB T0_ok (q1 P)) r_ret))
theorem ac (P : PT) (x0 x1 : Value) (H : AHeap) (h : B2 P x0 x1 H) : AC Tryz.prog T0 184 [x0, x1] H P :=
  r_fn T0_ok (c := code) (n := 9) Tryz.func184 body (by kernel_rfl) (main P) (En_mk (x0, x1, ()) (by kernel_rfl) ⟨by kernel_rfl, by kernel_rfl, trivial⟩ h)

end F184
-- loop.example/g01329/impl.IsGraph$1
namespace F185
noncomputable def ret (P : PT) : EP := retE T0 8 Tryz.f185 P
abbrev k0 : Sk := [(1,.x)]
noncomputable def o1 := ob Tryz.f185 [.r,.l]
def B1 (P : PT) (x1 : Nat) (H : AHeap) : Prop :=
  ldI .i64 H x1 0 (fun v1 => ldI .i64 H x1 1 (fun v2 => P (Value.bool (decide ((v1 : Int) < v2))) H))
theorem q1 (P : PT) : QB Tryz.prog T0 8 o1 (ret P) k0 (B1 P) := fun _ _ _  => by kernel_rfl
abbrev k1 : Sk := [(0,.g [.i,.i])]
noncomputable def o2 := ob Tryz.f185 [.l]
def B2 (P : PT) (x0a x0b : Int) (H : AHeap) : Prop :=
  newK H [(Value.int .i64 x0a), (Value.int .i64 x0b)] 78 (fun b1 H2 => B1 P b1 H2)
theorem q2 (P : PT) : QB Tryz.prog T0 8 o2 (En 8 k0 (B1 P)) k1 (B2 P) := fun _ _ _ _  => by kernel_rfl
noncomputable def code : Code := (.seq (.region 0 ⟨o2⟩ false) (.seq (.region 1 ⟨o1⟩ false) .ret))
theorem body : Tryz.f185.body = some code := by kernel_rfl
theorem main (P : PT) : ∀ env H, (En 8 k1 (B2 P)) env H → AW Tryz.prog T0 code env H (mkQ (ret P) (fun _ _ _ => False) (ret P)) :=
  (r_seq (rB T0_ok (q2 P)) (r_seq (rB T0_ok (q1 P)) r_ret))
theorem ac (P : PT) (x0a x0b : Int) (H : AHeap) (h : B2 P x0a x0b H) : AC Tryz.prog T0 185 [(Value.agg ⟨[(Value.int .i64 x0a), (Value.int .i64 x0b)]⟩)] H P :=
  r_fn T0_ok (c := code) (n := 8) Tryz.func185 body (by kernel_rfl) (main P) (En_mk (x0a, x0b, ()) (by kernel_rfl) ⟨by kernel_rfl, trivial⟩ h)

end F185
-- slices.IsSortedFunc[[]loop.example/g01329/impl.Edge,loop.example/g01329/impl.Edge]
namespace F186
noncomputable def ret (P : PT) : EP := retE T0 25 Tryz.f186 P
abbrev k0 : Sk := []
noncomputable def o1 := ob Tryz.f186 [.r,.r,.l]
def B1 (P : PT) (H : AHeap) : Prop :=
  P (Value.bool true) H
theorem q1 (P : PT) : QB Tryz.prog T0 25 o1 (ret P) k0 (B1 P) := fun _ _  => by kernel_rfl
abbrev k1 : Sk := [(0,.v),(1,.v),(5,.i .i64)]
noncomputable def o3 := ob Tryz.f186 [.r,.l,.r,.l,.l,.r,.r]
def B3 (P : PT) (N2 : NTy k1 Pr) (x0 x1 : Value) (x5 : Int) (H : AHeap) : Prop :=
  N2 x0 x1 (IntKind.i64.wrap (x5 - 1)) H
theorem q3 (P : PT) (N2 : NTy k1 Pr) : QB Tryz.prog T0 25 o3 (En 25 k1 N2) k1 (B3 P N2) := fun _ _ _ _ _  => by kernel_rfl
noncomputable def o4 := ob Tryz.f186 [.r,.l,.r,.l,.l,.r,.l,.l,.r,.l,.l]
def B4 (P : PT) (N2 : NTy k1 Pr) (H : AHeap) : Prop :=
  P (Value.bool false) H
theorem q4 (P : PT) (N2 : NTy k1 Pr) : QB Tryz.prog T0 25 o4 (ret P) k0 (B4 P N2) := fun _ _  => by kernel_rfl
noncomputable def o5 := ob Tryz.f186 [.r,.l,.r,.l,.l,.r,.l,.l,.l]
def B5 (P : PT) (N2 : NTy k1 Pr) (x0 x1 : Value) (x5 : Int) (H : AHeap) : Prop :=
  idxK x0 x5 2 (fun b1 o2 => ldI .i64 H b1 o2 (fun v3 => ldI .i64 H b1 (o2 + 1) (fun v4 => idxK x0 (IntKind.i64.wrap (x5 - 1)) 2 (fun b5 o6 => ldI .i64 H b5 o6 (fun v7 => ldI .i64 H b5 (o6 + 1) (fun v8 => callV Tryz.prog T0 x1 [(Value.agg ⟨[(Value.int .i64 v3), (Value.int .i64 v4)]⟩), (Value.agg ⟨[(Value.int .i64 v7), (Value.int .i64 v8)]⟩)] H (fun v9 H10 => asI .i64 v9 (fun v11 => pif (decide ((v11 : Int) < 0)) (B4 P N2 H10) (B3 P N2 x0 x1 x5 H10)))))))))
theorem q5 (P : PT) (N2 : NTy k1 Pr) : QD Tryz.prog T0 25 o5 [(0, false), (1, false), (2, false), (3, false), (4, false), (5, false), (6, false), (7, false), (8, false), (9, false), (10, false), (11, false)] (cnd 24 (En 25 k0 (B4 P N2)) (En 25 k1 (B3 P N2))) k1 (B5 P N2) := fun _ _ _ _ _  => by kernel_rfl
noncomputable def o6 := ob Tryz.f186 [.r,.l,.r,.l,.l,.l,.l]
def B6 (P : PT) (N2 : NTy k1 Pr) (x0 x1 : Value) (x5 : Int) (H : AHeap) : Prop :=
  pif (decide ((x5 : Int) > 0)) (B5 P N2 x0 x1 x5 H) (B1 P H)
theorem q6 (P : PT) (N2 : NTy k1 Pr) : QB Tryz.prog T0 25 o6 (cnd 10 (En 25 k1 (B5 P N2)) (En 25 k0 (B1 P))) k1 (B6 P N2) := fun _ _ _ _ _  => by kernel_rfl
def L2 (P : PT) (x0 x1 : Value) (x5 : Int) (H : AHeap) : Prop :=
  ∃ (I : NTy k1 Pr) (μ : NTy k1 (AHeap → Nat)), I x0 x1 x5 H ∧ ∀ y0 y1 y5 G, I y0 y1 y5 G → B6 P (fun z0 z1 z5 G' => I z0 z1 z5 G' ∧ μ z0 z1 z5 G' < μ y0 y1 y5 G) y0 y1 y5 G
theorem l2 (P : PT) : LQ k1 (L2 P) (B6 P) := fun ⟨_,_,_,_⟩ _ ⟨I, μ, h0, hI⟩ => ⟨apT _ I, apT _ μ, h0, fun ⟨_,_,_,_⟩ _ h => hI _ _ _ _  h⟩
abbrev k2 : Sk := [(0,.v),(1,.v)]
noncomputable def o7 := ob Tryz.f186 [.r,.l,.l]
def B7 (P : PT) (x0 x1 : Value) (H : AHeap) : Prop :=
  lenK x0 (fun n1 => L2 P x0 x1 (IntKind.i64.wrap ((n1 : Int) - 1)) H)
theorem q7 (P : PT) : QB Tryz.prog T0 25 o7 (En 25 k1 (L2 P)) k2 (B7 P) := fun _ _ _ _  => by kernel_rfl
noncomputable def o8 := ob Tryz.f186 [.l]
def B8 (P : PT) (x0 x1 : Value) (H : AHeap) : Prop :=
  B7 P x0 x1 H
theorem q8 (P : PT) : QB Tryz.prog T0 25 o8 (En 25 k2 (B7 P)) k2 (B8 P) := fun _ _ _ _  => by kernel_rfl
noncomputable def code : Code := (.seq (.region 0 ⟨o8⟩ false) (.seq (.seq (.region 1 ⟨o7⟩ false) (.block 0 (.loop (.seq (.seq (.region 2 ⟨o6⟩ false) (.cond (.tmp 10) .skip (.exit 0))) (.seq (.block 1 (.seq (.region 4 ⟨o5⟩ true) (.cond (.tmp 24) (.seq (.region 5 ⟨o4⟩ false) .ret) .skip))) (.region 3 ⟨o3⟩ false)))))) (.seq (.region 6 ⟨o1⟩ false) .ret)))
theorem body : Tryz.f186.body = some code := by kernel_rfl
theorem main (P : PT) : ∀ env H, (En 25 k2 (B8 P)) env H → AW Tryz.prog T0 code env H (mkQ (ret P) (fun _ _ _ => False) (ret P)) :=
  (r_seq (rB T0_ok (q8 P)) (r_seq (r_seq (rB T0_ok (q7 P)) (r_block (rL (l2 P) (fun N2 => (r_seq (r_seq (rB T0_ok (q6 P N2)) (r_cond rfl r_skip (r_exit (fun _ _ h => h)))) (r_seq (r_block (r_seq (rD T0_ok mixed [(0, false), (1, false), (2, false), (3, false), (4, false), (5, false), (6, false), (7, false), (8, false), (9, false), (10, false), (11, false)] (by kernel_rfl) (q5 P N2)) (r_cond rfl (r_seq (rB T0_ok (q4 P N2)) r_ret) r_skip))) (rB T0_ok (q3 P N2)))))))) (r_seq (rB T0_ok (q1 P)) r_ret)))
theorem ac (P : PT) (x0 x1 : Value) (H : AHeap) (h : B8 P x0 x1 H) : AC Tryz.prog T0 186 [x0, x1] H P :=
  r_fn T0_ok (c := code) (n := 25) Tryz.func186 body (by kernel_rfl) (main P) (En_mk (x0, x1, ()) (by kernel_rfl) ⟨by kernel_rfl, by kernel_rfl, trivial⟩ h)

end F186
-- loop.example/g01329/impl.compareEdges
namespace F187
noncomputable def ret (P : PT) : EP := retE T0 8 Tryz.f187 P
abbrev k0 : Sk := [(2,.x),(3,.x)]
noncomputable def o1 := ob Tryz.f187 [.r,.l]
def B1 (P : PT) (x2 x3 : Nat) (H : AHeap) : Prop :=
  AC Tryz.prog T0 170 [(Value.slice (some ⟨x2, 0, none⟩) 2 (2 + 1)), (Value.slice (some ⟨x3, 0, none⟩) 2 (2 + 1))] H (fun v1 H2 => asI .i64 v1 (fun v3 => P (Value.int .i64 v3) H2))
theorem q1 (P : PT) : QD Tryz.prog T0 8 o1 [(0, false), (1, false), (2, false), (3, false)] (ret P) k0 (B1 P) := fun _ _ _ _  => by kernel_rfl
abbrev k1 : Sk := [(0,.g [.i,.i]),(1,.g [.i,.i])]
noncomputable def o2 := ob Tryz.f187 [.l]
def B2 (P : PT) (x0a x0b x1a x1b : Int) (H : AHeap) : Prop :=
  newK H [(Value.int .i64 x0a), (Value.int .i64 x0b)] 78 (fun b1 H2 => newK H2 [(Value.int .i64 x1a), (Value.int .i64 x1b)] 78 (fun b3 H4 => B1 P b1 b3 H4))
theorem q2 (P : PT) : QB Tryz.prog T0 8 o2 (En 8 k0 (B1 P)) k1 (B2 P) := fun _ _ _ _ _ _  => by kernel_rfl
noncomputable def code : Code := (.seq (.region 0 ⟨o2⟩ false) (.seq (.region 1 ⟨o1⟩ true) .ret))
theorem body : Tryz.f187.body = some code := by kernel_rfl
theorem main (P : PT) : ∀ env H, (En 8 k1 (B2 P)) env H → AW Tryz.prog T0 code env H (mkQ (ret P) (fun _ _ _ => False) (ret P)) :=
  (r_seq (rB T0_ok (q2 P)) (r_seq (rD T0_ok mixed [(0, false), (1, false), (2, false), (3, false)] (by kernel_rfl) (q1 P)) r_ret))
theorem ac (P : PT) (x0a x0b x1a x1b : Int) (H : AHeap) (h : B2 P x0a x0b x1a x1b H) : AC Tryz.prog T0 187 [(Value.agg ⟨[(Value.int .i64 x0a), (Value.int .i64 x0b)]⟩), (Value.agg ⟨[(Value.int .i64 x1a), (Value.int .i64 x1b)]⟩)] H P :=
  r_fn T0_ok (c := code) (n := 8) Tryz.func187 body (by kernel_rfl) (main P) (En_mk (x0a, x0b, x1a, x1b, ()) (by kernel_rfl) ⟨by kernel_rfl, by kernel_rfl, trivial⟩ h)

end F187
-- loop.example/g01329/impl.isCubic
namespace F188
noncomputable def ret (P : PT) : EP := retE T0 33 Tryz.f188 P
abbrev k0 : Sk := [(5,.v)]
noncomputable def o1 := ob Tryz.f188 [.r,.r,.r,.l]
def B1 (P : PT) (x5 : Value) (H : AHeap) : Prop :=
  AC Tryz.prog T0 218 [x5, (Value.func (.func 219) ⟨[]⟩ ⟨[]⟩)] H (fun v1 H2 => asB v1 (fun v3 => P (Value.bool v3) H2))
theorem q1 (P : PT) : QB Tryz.prog T0 33 o1 (ret P) k0 (B1 P) := fun _ _ _  => by kernel_rfl
abbrev k1 : Sk := [(5,.v),(10,.v),(11,.i .i64),(12,.i .i64)]
noncomputable def o3 := ob Tryz.f188 [.r,.r,.l,.r,.l,.l,.r,.r,.r]
def B3 (P : PT) (N2 : NTy k1 Pr) (x5 x10 : Value) (x11 x12 : Int) (H : AHeap) : Prop :=
  N2 x5 x10 x11 (IntKind.i64.wrap (x12 + 1)) H
theorem q3 (P : PT) (N2 : NTy k1 Pr) : QB Tryz.prog T0 33 o3 (En 33 k1 N2) k1 (B3 P N2) := fun _ _ _ _ _ _  => by kernel_rfl
abbrev k2 : Sk := [(5,.v),(7,.x),(10,.v),(11,.i .i64),(12,.i .i64)]
noncomputable def o4 := ob Tryz.f188 [.r,.r,.l,.r,.l,.l,.r,.r,.l,.l,.r,.r]
def B4 (P : PT) (N2 : NTy k1 Pr) (x5 : Value) (x7 : Nat) (x10 : Value) (x11 x12 : Int) (H : AHeap) : Prop :=
  ldI .i64 H x7 1 (fun v1 => idxK x5 v1 1 (fun b2 o3 => ldI .i64 H b2 o3 (fun v4 => idxK x5 v1 1 (fun b5 o6 => stK H b5 o6 [(Value.int .i64 (IntKind.i64.wrap (v4 + 1)))] (fun H7 => B3 P N2 x5 x10 x11 x12 H7)))))
theorem q4 (P : PT) (N2 : NTy k1 Pr) : QB Tryz.prog T0 33 o4 (En 33 k1 (B3 P N2)) k2 (B4 P N2) := fun _ _ _ _ _ _ _  => by kernel_rfl
noncomputable def o5 := ob Tryz.f188 [.r,.r,.l,.r,.l,.l,.r,.r,.l,.l,.r,.l]
def B5 (P : PT) (N2 : NTy k1 Pr) (x5 : Value) (x7 : Nat) (x10 : Value) (x11 x12 : Int) (H : AHeap) : Prop :=
  ldI .i64 H x7 0 (fun v1 => idxK x5 v1 1 (fun b2 o3 => ldI .i64 H b2 o3 (fun v4 => idxK x5 v1 1 (fun b5 o6 => stK H b5 o6 [(Value.int .i64 (IntKind.i64.wrap (v4 + 1)))] (fun H7 => B4 P N2 x5 x7 x10 x11 x12 H7)))))
theorem q5 (P : PT) (N2 : NTy k1 Pr) : QB Tryz.prog T0 33 o5 (En 33 k2 (B4 P N2)) k2 (B5 P N2) := fun _ _ _ _ _ _ _  => by kernel_rfl
noncomputable def o6 := ob Tryz.f188 [.r,.r,.l,.r,.l,.l,.r,.r,.l,.l,.l]
def B6 (P : PT) (N2 : NTy k1 Pr) (x5 x10 : Value) (x11 x12 : Int) (H : AHeap) : Prop :=
  idxK x10 x12 2 (fun b1 o2 => ldI .i64 H b1 o2 (fun v3 => ldI .i64 H b1 (o2 + 1) (fun v4 => newK H [(Value.int .i64 0), (Value.int .i64 0)] 78 (fun b5 H6 => stK H6 b5 0 [(Value.int .i64 v3), (Value.int .i64 v4)] (fun H7 => B5 P N2 x5 b5 x10 x11 x12 H7)))))
theorem q6 (P : PT) (N2 : NTy k1 Pr) : QB Tryz.prog T0 33 o6 (En 33 k2 (B5 P N2)) k1 (B6 P N2) := fun _ _ _ _ _ _  => by kernel_rfl
noncomputable def o7 := ob Tryz.f188 [.r,.r,.l,.r,.l,.l,.l]
def B7 (P : PT) (N2 : NTy k1 Pr) (x5 x10 : Value) (x11 x12 : Int) (H : AHeap) : Prop :=
  pif (decide ((x12 : Int) < x11)) (B6 P N2 x5 x10 x11 x12 H) (B1 P x5 H)
theorem q7 (P : PT) (N2 : NTy k1 Pr) : QB Tryz.prog T0 33 o7 (cnd 13 (En 33 k1 (B6 P N2)) (En 33 k0 (B1 P))) k1 (B7 P N2) := fun _ _ _ _ _ _  => by kernel_rfl
def L2 (P : PT) (x5 x10 : Value) (x11 x12 : Int) (H : AHeap) : Prop :=
  ∃ (I : NTy k1 Pr) (μ : NTy k1 (AHeap → Nat)), I x5 x10 x11 x12 H ∧ ∀ y5 y10 y11 y12 G, I y5 y10 y11 y12 G → B7 P (fun z5 z10 z11 z12 G' => I z5 z10 z11 z12 G' ∧ μ z5 z10 z11 z12 G' < μ y5 y10 y11 y12 G) y5 y10 y11 y12 G
theorem l2 (P : PT) : LQ k1 (L2 P) (B7 P) := fun ⟨_,_,_,_,_⟩ _ ⟨I, μ, h0, hI⟩ => ⟨apT _ I, apT _ μ, h0, fun ⟨_,_,_,_,_⟩ _ h => hI _ _ _ _ _  h⟩
abbrev k3 : Sk := [(1,.v),(5,.v)]
noncomputable def o8 := ob Tryz.f188 [.r,.r,.l,.l]
def B8 (P : PT) (x1 x5 : Value) (H : AHeap) : Prop :=
  lenK x1 (fun n1 => L2 P x5 x1 (n1 : Int) 0 H)
theorem q8 (P : PT) : QB Tryz.prog T0 33 o8 (En 33 k1 (L2 P)) k3 (B8 P) := fun _ _ _ _  => by kernel_rfl
abbrev k4 : Sk := [(0,.i .i64),(1,.v)]
noncomputable def o9 := ob Tryz.f188 [.r,.l]
def B9 (P : PT) (x0 : Int) (x1 : Value) (H : AHeap) : Prop :=
  mkR H 8 3 [(Value.int .i64 0)] x0 x0 (fun v2 H1 => B8 P x1 v2 H1)
theorem q9 (P : PT) : QB Tryz.prog T0 33 o9 (En 33 k3 (B8 P)) k4 (B9 P) := fun _ _ _ _  => by kernel_rfl
noncomputable def o10 := ob Tryz.f188 [.l]
def B10 (P : PT) (x0 : Int) (x1 : Value) (H : AHeap) : Prop :=
  B9 P x0 x1 H
theorem q10 (P : PT) : QB Tryz.prog T0 33 o10 (En 33 k4 (B9 P)) k4 (B10 P) := fun _ _ _ _  => by kernel_rfl
noncomputable def code : Code := (.seq (.region 0 ⟨o10⟩ false) (.seq (.region 1 ⟨o9⟩ false) (.seq (.seq (.region 2 ⟨o8⟩ false) (.block 0 (.loop (.seq (.region 3 ⟨o7⟩ false) (.seq (.cond (.tmp 13) .skip (.exit 0)) (.seq (.block 1 (.seq (.region 4 ⟨o6⟩ false) (.seq (.region 5 ⟨o5⟩ false) (.region 6 ⟨o4⟩ false)))) (.region 7 ⟨o3⟩ false))))))) (.seq (.region 8 ⟨o1⟩ false) .ret))))
theorem body : Tryz.f188.body = some code := by kernel_rfl
theorem main (P : PT) : ∀ env H, (En 33 k4 (B10 P)) env H → AW Tryz.prog T0 code env H (mkQ (ret P) (fun _ _ _ => False) (ret P)) :=
  (r_seq (rB T0_ok (q10 P)) (r_seq (rB T0_ok (q9 P)) (r_seq (r_seq (rB T0_ok (q8 P)) (r_block (rL (l2 P) (fun N2 => (r_seq (rB T0_ok (q7 P N2)) (r_seq (r_cond rfl r_skip (r_exit (fun _ _ h => h))) (r_seq (r_block (r_seq (rB T0_ok (q6 P N2)) (r_seq (rB T0_ok (q5 P N2)) (rB T0_ok (q4 P N2))))) (rB T0_ok (q3 P N2))))))))) (r_seq (rB T0_ok (q1 P)) r_ret))))
theorem ac (P : PT) (x0 : Int) (x1 : Value) (H : AHeap) (h : B10 P x0 x1 H) : AC Tryz.prog T0 188 [(Value.int .i64 x0), x1] H P :=
  r_fn T0_ok (c := code) (n := 33) Tryz.func188 body (by kernel_rfl) (main P) (En_mk (x0, x1, ()) (by kernel_rfl) ⟨by kernel_rfl, by kernel_rfl, trivial⟩ h)

end F188
-- slices.ContainsFunc[[]int64,int64]
namespace F189
noncomputable def ret (P : PT) : EP := retE T0 9 Tryz.f189 P
abbrev k0 : Sk := [(0,.v),(1,.v)]
noncomputable def o1 := ob Tryz.f189 [.r,.l]
def B1 (P : PT) (x0 x1 : Value) (H : AHeap) : Prop :=
  AC Tryz.prog T0 220 [x0, x1] H (fun v1 H2 => asI .i64 v1 (fun v3 => P (Value.bool (decide ((v3 : Int) ≥ 0))) H2))
theorem q1 (P : PT) : QB Tryz.prog T0 9 o1 (ret P) k0 (B1 P) := fun _ _ _ _  => by kernel_rfl
noncomputable def o2 := ob Tryz.f189 [.l]
def B2 (P : PT) (x0 x1 : Value) (H : AHeap) : Prop :=
  B1 P x0 x1 H
theorem q2 (P : PT) : QB Tryz.prog T0 9 o2 (En 9 k0 (B1 P)) k0 (B2 P) := fun _ _ _ _  => by kernel_rfl
noncomputable def code : Code := (.seq (.region 0 ⟨o2⟩ false) (.seq (.region 1 ⟨o1⟩ false) .ret))
theorem body : Tryz.f189.body = some code := by kernel_rfl
theorem main (P : PT) : ∀ env H, (En 9 k0 (B2 P)) env H → AW Tryz.prog T0 code env H (mkQ (ret P) (fun _ _ _ => False) (ret P)) :=
  (r_seq (rB T0_ok (q2 P)) (r_seq (rB T0_ok (q1 P)) r_ret))
theorem ac (P : PT) (x0 x1 : Value) (H : AHeap) (h : B2 P x0 x1 H) : AC Tryz.prog T0 189 [x0, x1] H P :=
  r_fn T0_ok (c := code) (n := 9) Tryz.func189 body (by kernel_rfl) (main P) (En_mk (x0, x1, ()) (by kernel_rfl) ⟨by kernel_rfl, by kernel_rfl, trivial⟩ h)

end F189
-- loop.example/g01329/impl.areAll[int64]$1
namespace F190
noncomputable def ret (P : PT) : EP := retE T0 8 Tryz.f190 P
abbrev k0 : Sk := [(0,.i .i64),(1,.v)]
noncomputable def o1 := ob Tryz.f190 [.r,.l]
def B1 (P : PT) (x0 : Int) (x1 : Value) (H : AHeap) : Prop :=
  asP x1 (fun b1 o2 => ld1 H b1 o2 (fun v3 => callV Tryz.prog T0 v3 [(Value.int .i64 x0)] H (fun v4 H5 => asB v4 (fun v6 => P (Value.bool (!v6)) H5))))
theorem q1 (P : PT) : QB Tryz.prog T0 8 o1 (ret P) k0 (B1 P) := fun _ _ _ _  => by kernel_rfl
noncomputable def o2 := ob Tryz.f190 [.l]
def B2 (P : PT) (x0 : Int) (x1 : Value) (H : AHeap) : Prop :=
  B1 P x0 x1 H
theorem q2 (P : PT) : QB Tryz.prog T0 8 o2 (En 8 k0 (B1 P)) k0 (B2 P) := fun _ _ _ _  => by kernel_rfl
noncomputable def code : Code := (.seq (.region 0 ⟨o2⟩ false) (.seq (.region 1 ⟨o1⟩ false) .ret))
theorem body : Tryz.f190.body = some code := by kernel_rfl
theorem main (P : PT) : ∀ env H, (En 8 k0 (B2 P)) env H → AW Tryz.prog T0 code env H (mkQ (ret P) (fun _ _ _ => False) (ret P)) :=
  (r_seq (rB T0_ok (q2 P)) (r_seq (rB T0_ok (q1 P)) r_ret))
theorem ac (P : PT) (x0 : Int) (x1 : Value) (H : AHeap) (h : B2 P x0 x1 H) : AC Tryz.prog T0 190 [(Value.int .i64 x0), x1] H P :=
  r_fn T0_ok (c := code) (n := 8) Tryz.func190 body (by kernel_rfl) (main P) (En_mk (x0, x1, ()) (by kernel_rfl) ⟨by kernel_rfl, by kernel_rfl, trivial⟩ h)

end F190
-- loop.example/g01329/spec.l01Other
namespace F191
noncomputable def ret (P : PT) : EP := retE T0 22 Tryz.f191 P
abbrev k0 : Sk := [(1,.i .i64),(2,.i .i64),(3,.x)]
noncomputable def o1 := ob Tryz.f191 [.r,.l]
def B1 (P : PT) (x1 x2 : Int) (x3 : Nat) (H : AHeap) : Prop :=
  ld1 H x3 1 (fun v1 => idxK v1 x1 2 (fun b2 o3 => ldI .i64 H b2 o3 (fun v4 => ld1 H x3 1 (fun v5 => idxK v5 x1 2 (fun b6 o7 => ldI .i64 H b6 (o7 + 1) (fun v8 => P (Value.int .i64 (IntKind.i64.wrap ((IntKind.i64.wrap (v4 + v8)) - x2))) H))))))
theorem q1 (P : PT) : QD Tryz.prog T0 22 o1 [(0, false), (1, false), (2, false), (3, false), (4, false), (5, false), (6, false), (7, false), (8, false), (9, false), (10, false), (11, false), (12, false), (13, false), (14, false), (15, false)] (ret P) k0 (B1 P) := fun _ _ _ _ _  => by kernel_rfl
abbrev k1 : Sk := [(0,.g [.i,.v]),(1,.i .i64),(2,.i .i64)]
noncomputable def o2 := ob Tryz.f191 [.l]
def B2 (P : PT) (x0a : Int) (x0b : Value) (x1 x2 : Int) (H : AHeap) : Prop :=
  newK H [(Value.int .i64 x0a), x0b] 26 (fun b1 H2 => B1 P x1 x2 b1 H2)
theorem q2 (P : PT) : QB Tryz.prog T0 22 o2 (En 22 k0 (B1 P)) k1 (B2 P) := fun _ _ _ _ _ _  => by kernel_rfl
noncomputable def code : Code := (.seq (.region 0 ⟨o2⟩ false) (.seq (.region 1 ⟨o1⟩ true) .ret))
theorem body : Tryz.f191.body = some code := by kernel_rfl
theorem main (P : PT) : ∀ env H, (En 22 k1 (B2 P)) env H → AW Tryz.prog T0 code env H (mkQ (ret P) (fun _ _ _ => False) (ret P)) :=
  (r_seq (rB T0_ok (q2 P)) (r_seq (rD T0_ok mixed [(0, false), (1, false), (2, false), (3, false), (4, false), (5, false), (6, false), (7, false), (8, false), (9, false), (10, false), (11, false), (12, false), (13, false), (14, false), (15, false)] (by kernel_rfl) (q1 P)) r_ret))
theorem ac (P : PT) (x0a : Int) (x0b : Value) (x1 x2 : Int) (H : AHeap) (h : B2 P x0a x0b x1 x2 H) : AC Tryz.prog T0 191 [(Value.agg ⟨[(Value.int .i64 x0a), x0b]⟩), (Value.int .i64 x1), (Value.int .i64 x2)] H P :=
  r_fn T0_ok (c := code) (n := 22) Tryz.func191 body (by kernel_rfl) (main P) (En_mk (x0a, x0b, x1, x2, ()) (by kernel_rfl) ⟨by kernel_rfl, by kernel_rfl, by kernel_rfl, trivial⟩ h)

end F191
-- slices.Repeat[[]int64,int64]
namespace F192
noncomputable def ret (P : PT) : EP := retE T0 48 Tryz.f192 P
abbrev k0 : Sk := [(7,.v)]
noncomputable def o1 := ob Tryz.f192 [.r,.r,.r,.r,.r,.r,.r,.l]
def B1 (P : PT) (x7 : Value) (H : AHeap) : Prop :=
  P x7 H
theorem q1 (P : PT) : QB Tryz.prog T0 48 o1 (ret P) k0 (B1 P) := fun _ _ _  => by kernel_rfl
abbrev k1 : Sk := [(7,.v),(8,.i .i64)]
noncomputable def o3 := ob Tryz.f192 [.r,.r,.r,.r,.r,.r,.l,.l,.l,.r,.l]
def B3 (P : PT) (N2 : NTy k1 Pr) (x7 : Value) (x8 : Int) (H : AHeap) : Prop :=
  sliceK H 2 x7 (some (Value.int .i64 x8)) none 1 (fun v1 => sliceK H 2 x7 none (some (Value.int .i64 x8)) 1 (fun v2 => cpK T0 2 H v1 v2 (fun n3 H4 => N2 x7 (IntKind.i64.wrap (x8 + (n3 : Int))) H4)))
theorem q3 (P : PT) (N2 : NTy k1 Pr) : QD Tryz.prog T0 48 o3 [(0, false), (1, false), (2, false), (3, false), (4, false), (5, false), (6, false), (7, false), (8, false), (9, false)] (En 48 k1 N2) k1 (B3 P N2) := fun _ _ _ _  => by kernel_rfl
noncomputable def o4 := ob Tryz.f192 [.r,.r,.r,.r,.r,.r,.l,.l,.l,.l,.l]
def B4 (P : PT) (N2 : NTy k1 Pr) (x7 : Value) (x8 : Int) (H : AHeap) : Prop :=
  lenK x7 (fun n1 => pif (decide ((x8 : Int) < (n1 : Int))) (B3 P N2 x7 x8 H) (B1 P x7 H))
theorem q4 (P : PT) (N2 : NTy k1 Pr) : QB Tryz.prog T0 48 o4 (cnd 37 (En 48 k1 (B3 P N2)) (En 48 k0 (B1 P))) k1 (B4 P N2) := fun _ _ _ _  => by kernel_rfl
def L2 (P : PT) (x7 : Value) (x8 : Int) (H : AHeap) : Prop :=
  ∃ (I : NTy k1 Pr) (μ : NTy k1 (AHeap → Nat)), I x7 x8 H ∧ ∀ y7 y8 G, I y7 y8 G → B4 P (fun z7 z8 G' => I z7 z8 G' ∧ μ z7 z8 G' < μ y7 y8 G) y7 y8 G
theorem l2 (P : PT) : LQ k1 (L2 P) (B4 P) := fun ⟨_,_,_⟩ _ ⟨I, μ, h0, hI⟩ => ⟨apT _ I, apT _ μ, h0, fun ⟨_,_,_⟩ _ h => hI _ _ _  h⟩
abbrev k2 : Sk := [(0,.v),(7,.v)]
noncomputable def o5 := ob Tryz.f192 [.r,.r,.r,.r,.r,.l]
def B5 (P : PT) (x0 x7 : Value) (H : AHeap) : Prop :=
  cpK T0 2 H x7 x0 (fun n1 H2 => L2 P x7 (n1 : Int) H2)
theorem q5 (P : PT) : QB Tryz.prog T0 48 o5 (En 48 k1 (L2 P)) k2 (B5 P) := fun _ _ _ _  => by kernel_rfl
abbrev k3 : Sk := [(0,.v),(6,.i .u64)]
noncomputable def o6 := ob Tryz.f192 [.r,.r,.r,.r,.l]
def B6 (P : PT) (x0 : Value) (x6 : Int) (H : AHeap) : Prop :=
  mkR H 8 2 [(Value.int .i64 0)] (IntKind.i64.wrap x6) (IntKind.i64.wrap x6) (fun v2 H1 => B5 P x0 v2 H1)
theorem q6 (P : PT) : QB Tryz.prog T0 48 o6 (En 48 k2 (B5 P)) k3 (B6 P) := fun _ _ _ _  => by kernel_rfl
abbrev k4 : Sk := [(0,.v),(5,.i .u64),(6,.i .u64)]
noncomputable def o7 := ob Tryz.f192 [.r,.r,.r,.l,.l]
def B7 (P : PT) (x0 : Value) (x5 x6 : Int) (H : AHeap) : Prop :=
  pif (decide ((x5 : Int) > 0)) (False) (pif (decide ((x6 : Int) > 9223372036854775807)) (False) (B6 P x0 x6 H))
theorem q7 (P : PT) : QB Tryz.prog T0 48 o7 (cnd 26 (fun _ _ => False) (En 48 k3 (B6 P))) k4 (B7 P) := fun _ _ _ _ _  => by kernel_rfl
abbrev k5 : Sk := [(0,.v),(1,.i .i64)]
noncomputable def o8 := ob Tryz.f192 [.r,.r,.l]
def B8 (P : PT) (x0 : Value) (x1 : Int) (H : AHeap) : Prop :=
  lenK x0 (fun n1 => AC Tryz.prog T0 221 [(Value.int .u64 (IntKind.u64.wrap (n1 : Int))), (Value.int .u64 (IntKind.u64.wrap x1))] H (fun v2 H3 => tup2 v2 (fun v4 v5 => asI .u64 v4 (fun v6 => asI .u64 v5 (fun v7 => B7 P x0 v6 v7 H3)))))
theorem q8 (P : PT) : QB Tryz.prog T0 48 o8 (En 48 k4 (B7 P)) k5 (B8 P) := fun _ _ _ _  => by kernel_rfl
noncomputable def o9 := ob Tryz.f192 [.r,.l,.l]
def B9 (P : PT) (x0 : Value) (x1 : Int) (H : AHeap) : Prop :=
  pif (decide ((x1 : Int) < 0)) (False) (B8 P x0 x1 H)
theorem q9 (P : PT) : QB Tryz.prog T0 48 o9 (cnd 10 (fun _ _ => False) (En 48 k5 (B8 P))) k5 (B9 P) := fun _ _ _ _  => by kernel_rfl
noncomputable def o10 := ob Tryz.f192 [.l]
def B10 (P : PT) (x0 : Value) (x1 : Int) (H : AHeap) : Prop :=
  B9 P x0 x1 H
theorem q10 (P : PT) : QB Tryz.prog T0 48 o10 (En 48 k5 (B9 P)) k5 (B10 P) := fun _ _ _ _  => by kernel_rfl
noncomputable def code : Code := (.seq (.region 0 ⟨o10⟩ false) (.seq (.seq (.region 1 ⟨o9⟩ false) (.cond (.tmp 10) (codeAt (bodyOf Tryz.f192) [.r,.l,.r,.l]) .skip)) (.seq (.region 3 ⟨o8⟩ false) (.seq (.seq (.region 4 ⟨o7⟩ false) (.cond (.tmp 26) (codeAt (bodyOf Tryz.f192) [.r,.r,.r,.l,.r,.l]) .skip)) (.seq (.region 6 ⟨o6⟩ false) (.seq (.region 7 ⟨o5⟩ false) (.seq (.block 0 (.loop (.seq (.seq (.region 8 ⟨o4⟩ false) (.cond (.tmp 37) .skip (.exit 0))) (.block 1 (.region 9 ⟨o3⟩ true))))) (.seq (.region 10 ⟨o1⟩ false) .ret))))))))
theorem body : Tryz.f192.body = some code := by kernel_rfl
theorem main (P : PT) : ∀ env H, (En 48 k5 (B10 P)) env H → AW Tryz.prog T0 code env H (mkQ (ret P) (fun _ _ _ => False) (ret P)) :=
  (r_seq (rB T0_ok (q10 P)) (r_seq (r_seq (rB T0_ok (q9 P)) (r_cond rfl r_none r_skip)) (r_seq (rB T0_ok (q8 P)) (r_seq (r_seq (rB T0_ok (q7 P)) (r_cond rfl r_none r_skip)) (r_seq (rB T0_ok (q6 P)) (r_seq (rB T0_ok (q5 P)) (r_seq (r_block (rL (l2 P) (fun N2 => (r_seq (r_seq (rB T0_ok (q4 P N2)) (r_cond rfl r_skip (r_exit (fun _ _ h => h)))) (r_block (rD T0_ok mixed [(0, false), (1, false), (2, false), (3, false), (4, false), (5, false), (6, false), (7, false), (8, false), (9, false)] (by kernel_rfl) (q3 P N2))))))) (r_seq (rB T0_ok (q1 P)) r_ret))))))))
theorem ac (P : PT) (x0 : Value) (x1 : Int) (H : AHeap) (h : B10 P x0 x1 H) : AC Tryz.prog T0 192 [x0, (Value.int .i64 x1)] H P :=
  r_fn T0_ok (c := code) (n := 48) Tryz.func192 body (by kernel_rfl) (main P) (En_mk (x0, x1, ()) (by kernel_rfl) ⟨by kernel_rfl, by kernel_rfl, trivial⟩ h)

end F192
-- (loop.example/g01329/impl.Edge).other
namespace F193
noncomputable def ret (P : PT) : EP := retE T0 12 Tryz.f193 P
abbrev k0 : Sk := [(1,.i .i64),(2,.x)]
noncomputable def o1 := ob Tryz.f193 [.r,.l]
def B1 (P : PT) (x1 : Int) (x2 : Nat) (H : AHeap) : Prop :=
  ldI .i64 H x2 0 (fun v1 => ldI .i64 H x2 1 (fun v2 => P (Value.int .i64 (IntKind.i64.wrap ((IntKind.i64.wrap (v1 + v2)) - x1))) H))
theorem q1 (P : PT) : QB Tryz.prog T0 12 o1 (ret P) k0 (B1 P) := fun _ _ _ _  => by kernel_rfl
abbrev k1 : Sk := [(0,.g [.i,.i]),(1,.i .i64)]
noncomputable def o2 := ob Tryz.f193 [.l]
def B2 (P : PT) (x0a x0b x1 : Int) (H : AHeap) : Prop :=
  newK H [(Value.int .i64 x0a), (Value.int .i64 x0b)] 78 (fun b1 H2 => B1 P x1 b1 H2)
theorem q2 (P : PT) : QB Tryz.prog T0 12 o2 (En 12 k0 (B1 P)) k1 (B2 P) := fun _ _ _ _ _  => by kernel_rfl
noncomputable def code : Code := (.seq (.region 0 ⟨o2⟩ false) (.seq (.region 1 ⟨o1⟩ false) .ret))
theorem body : Tryz.f193.body = some code := by kernel_rfl
theorem main (P : PT) : ∀ env H, (En 12 k1 (B2 P)) env H → AW Tryz.prog T0 code env H (mkQ (ret P) (fun _ _ _ => False) (ret P)) :=
  (r_seq (rB T0_ok (q2 P)) (r_seq (rB T0_ok (q1 P)) r_ret))
theorem ac (P : PT) (x0a x0b x1 : Int) (H : AHeap) (h : B2 P x0a x0b x1 H) : AC Tryz.prog T0 193 [(Value.agg ⟨[(Value.int .i64 x0a), (Value.int .i64 x0b)]⟩), (Value.int .i64 x1)] H P :=
  r_fn T0_ok (c := code) (n := 12) Tryz.func193 body (by kernel_rfl) (main P) (En_mk (x0a, x0b, x1, ()) (by kernel_rfl) ⟨by kernel_rfl, by kernel_rfl, trivial⟩ h)

end F193
-- (loop.example/g01329/impl.Edge).isOn
namespace F195
noncomputable def ret (P : PT) : EP := retE T0 15 Tryz.f195 P
abbrev k0 : Sk := [(1,.i .i64),(2,.x)]
noncomputable def o1 := ob Tryz.f195 [.r,.l]
def B1 (P : PT) (x1 : Int) (x2 : Nat) (H : AHeap) : Prop :=
  ldI .i64 H x2 0 (fun v1 => pif ((v1 : Int) == x1) (P (Value.bool true) H) (ldI .i64 H x2 1 (fun v2 => P (Value.bool ((v2 : Int) == x1)) H)))
theorem q1 (P : PT) : QB Tryz.prog T0 15 o1 (ret P) k0 (B1 P) := fun _ _ _ _  => by kernel_rfl
abbrev k1 : Sk := [(0,.g [.i,.i]),(1,.i .i64)]
noncomputable def o2 := ob Tryz.f195 [.l]
def B2 (P : PT) (x0a x0b x1 : Int) (H : AHeap) : Prop :=
  newK H [(Value.int .i64 x0a), (Value.int .i64 x0b)] 78 (fun b1 H2 => B1 P x1 b1 H2)
theorem q2 (P : PT) : QB Tryz.prog T0 15 o2 (En 15 k0 (B1 P)) k1 (B2 P) := fun _ _ _ _ _  => by kernel_rfl
noncomputable def code : Code := (.seq (.region 0 ⟨o2⟩ false) (.seq (.region 1 ⟨o1⟩ false) .ret))
theorem body : Tryz.f195.body = some code := by kernel_rfl
theorem main (P : PT) : ∀ env H, (En 15 k1 (B2 P)) env H → AW Tryz.prog T0 code env H (mkQ (ret P) (fun _ _ _ => False) (ret P)) :=
  (r_seq (rB T0_ok (q2 P)) (r_seq (rB T0_ok (q1 P)) r_ret))
theorem ac (P : PT) (x0a x0b x1 : Int) (H : AHeap) (h : B2 P x0a x0b x1 H) : AC Tryz.prog T0 195 [(Value.agg ⟨[(Value.int .i64 x0a), (Value.int .i64 x0b)]⟩), (Value.int .i64 x1)] H P :=
  r_fn T0_ok (c := code) (n := 15) Tryz.func195 body (by kernel_rfl) (main P) (En_mk (x0a, x0b, x1, ()) (by kernel_rfl) ⟨by kernel_rfl, by kernel_rfl, trivial⟩ h)

end F195
-- cmp.isNaN[int64]
namespace F209
noncomputable def ret (P : PT) : EP := retE T0 6 Tryz.f209 P
abbrev k0 : Sk := [(0,.i .i64)]
noncomputable def o1 := ob Tryz.f209 [.r,.l]
def B1 (P : PT) (x0 : Int) (H : AHeap) : Prop :=
  P (Value.bool ((x0 : Int) != x0)) H
theorem q1 (P : PT) : QB Tryz.prog T0 6 o1 (ret P) k0 (B1 P) := fun _ _ _  => by kernel_rfl
noncomputable def o2 := ob Tryz.f209 [.l]
def B2 (P : PT) (x0 : Int) (H : AHeap) : Prop :=
  B1 P x0 H
theorem q2 (P : PT) : QB Tryz.prog T0 6 o2 (En 6 k0 (B1 P)) k0 (B2 P) := fun _ _ _  => by kernel_rfl
noncomputable def code : Code := (.seq (.region 0 ⟨o2⟩ false) (.seq (.region 1 ⟨o1⟩ false) .ret))
theorem body : Tryz.f209.body = some code := by kernel_rfl
theorem main (P : PT) : ∀ env H, (En 6 k0 (B2 P)) env H → AW Tryz.prog T0 code env H (mkQ (ret P) (fun _ _ _ => False) (ret P)) :=
  (r_seq (rB T0_ok (q2 P)) (r_seq (rB T0_ok (q1 P)) r_ret))
theorem ac (P : PT) (x0 : Int) (H : AHeap) (h : B2 P x0 H) : AC Tryz.prog T0 209 [(Value.int .i64 x0)] H P :=
  r_fn T0_ok (c := code) (n := 6) Tryz.func209 body (by kernel_rfl) (main P) (En_mk (x0, ()) (by kernel_rfl) ⟨by kernel_rfl, trivial⟩ h)

end F209
-- loop.example/g01329/impl.isSize
namespace F214
noncomputable def ret (P : PT) : EP := retE T0 10 Tryz.f214 P
abbrev k0 : Sk := [(0,.i .i64)]
noncomputable def o1 := ob Tryz.f214 [.r,.l]
def B1 (P : PT) (x0 : Int) (H : AHeap) : Prop :=
  AC Tryz.prog T0 77 [(Value.int .i64 x0), (Value.int .i64 2), (Value.int .i64 20)] H (fun v1 H2 => asB v1 (fun v3 => pif v3 (P (Value.bool ((Int.tmod x0 2 : Int) == 0)) H2) (P (Value.bool false) H2)))
theorem q1 (P : PT) : QB Tryz.prog T0 10 o1 (ret P) k0 (B1 P) := fun _ _ _  => by kernel_rfl
noncomputable def o2 := ob Tryz.f214 [.l]
def B2 (P : PT) (x0 : Int) (H : AHeap) : Prop :=
  B1 P x0 H
theorem q2 (P : PT) : QB Tryz.prog T0 10 o2 (En 10 k0 (B1 P)) k0 (B2 P) := fun _ _ _  => by kernel_rfl
noncomputable def code : Code := (.seq (.region 0 ⟨o2⟩ false) (.seq (.region 1 ⟨o1⟩ false) .ret))
theorem body : Tryz.f214.body = some code := by kernel_rfl
theorem main (P : PT) : ∀ env H, (En 10 k0 (B2 P)) env H → AW Tryz.prog T0 code env H (mkQ (ret P) (fun _ _ _ => False) (ret P)) :=
  (r_seq (rB T0_ok (q2 P)) (r_seq (rB T0_ok (q1 P)) r_ret))
theorem ac (P : PT) (x0 : Int) (H : AHeap) (h : B2 P x0 H) : AC Tryz.prog T0 214 [(Value.int .i64 x0)] H P :=
  r_fn T0_ok (c := code) (n := 10) Tryz.func214 body (by kernel_rfl) (main P) (En_mk (x0, ()) (by kernel_rfl) ⟨by kernel_rfl, trivial⟩ h)

end F214
-- loop.example/g01329/impl.areEdges$1
namespace F215
noncomputable def ret (P : PT) : EP := retE T0 23 Tryz.f215 P
abbrev k0 : Sk := [(1,.v),(2,.x)]
noncomputable def o1 := ob Tryz.f215 [.r,.l]
def B1 (P : PT) (x1 : Value) (x2 : Nat) (H : AHeap) : Prop :=
  ldI .i64 H x2 0 (fun v1 => asP x1 (fun b2 o3 => ldI .i64 H b2 o3 (fun v4 => AC Tryz.prog T0 77 [(Value.int .i64 v1), (Value.int .i64 0), (Value.int .i64 (IntKind.i64.wrap (v4 - 1)))] H (fun v5 H6 => asB v5 (fun v7 => pif v7 (ldI .i64 H6 x2 1 (fun v8 => asP x1 (fun b9 o10 => ldI .i64 H6 b9 o10 (fun v11 => AC Tryz.prog T0 77 [(Value.int .i64 v8), (Value.int .i64 0), (Value.int .i64 (IntKind.i64.wrap (v11 - 1)))] H6 (fun v12 H13 => asB v12 (fun v14 => pif v14 (ldI .i64 H13 x2 0 (fun v15 => ldI .i64 H13 x2 1 (fun v16 => P (Value.bool ((v15 : Int) != v16)) H13))) (P (Value.bool false) H13))))))) (P (Value.bool false) H6))))))
theorem q1 (P : PT) : QB Tryz.prog T0 23 o1 (ret P) k0 (B1 P) := fun _ _ _ _  => by kernel_rfl
abbrev k1 : Sk := [(0,.g [.i,.i]),(1,.v)]
noncomputable def o2 := ob Tryz.f215 [.l]
def B2 (P : PT) (x0a x0b : Int) (x1 : Value) (H : AHeap) : Prop :=
  newK H [(Value.int .i64 x0a), (Value.int .i64 x0b)] 78 (fun b1 H2 => B1 P x1 b1 H2)
theorem q2 (P : PT) : QB Tryz.prog T0 23 o2 (En 23 k0 (B1 P)) k1 (B2 P) := fun _ _ _ _ _  => by kernel_rfl
noncomputable def code : Code := (.seq (.region 0 ⟨o2⟩ false) (.seq (.region 1 ⟨o1⟩ false) .ret))
theorem body : Tryz.f215.body = some code := by kernel_rfl
theorem main (P : PT) : ∀ env H, (En 23 k1 (B2 P)) env H → AW Tryz.prog T0 code env H (mkQ (ret P) (fun _ _ _ => False) (ret P)) :=
  (r_seq (rB T0_ok (q2 P)) (r_seq (rB T0_ok (q1 P)) r_ret))
theorem ac (P : PT) (x0a x0b : Int) (x1 : Value) (H : AHeap) (h : B2 P x0a x0b x1 H) : AC Tryz.prog T0 215 [(Value.agg ⟨[(Value.int .i64 x0a), (Value.int .i64 x0b)]⟩), x1] H P :=
  r_fn T0_ok (c := code) (n := 23) Tryz.func215 body (by kernel_rfl) (main P) (En_mk (x0a, x0b, x1, ()) (by kernel_rfl) ⟨by kernel_rfl, by kernel_rfl, trivial⟩ h)

end F215
-- slices.ContainsFunc[[]loop.example/g01329/impl.Edge,loop.example/g01329/impl.Edge]
namespace F216
noncomputable def ret (P : PT) : EP := retE T0 9 Tryz.f216 P
abbrev k0 : Sk := [(0,.v),(1,.v)]
noncomputable def o1 := ob Tryz.f216 [.r,.l]
def B1 (P : PT) (x0 x1 : Value) (H : AHeap) : Prop :=
  AC Tryz.prog T0 228 [x0, x1] H (fun v1 H2 => asI .i64 v1 (fun v3 => P (Value.bool (decide ((v3 : Int) ≥ 0))) H2))
theorem q1 (P : PT) : QB Tryz.prog T0 9 o1 (ret P) k0 (B1 P) := fun _ _ _ _  => by kernel_rfl
noncomputable def o2 := ob Tryz.f216 [.l]
def B2 (P : PT) (x0 x1 : Value) (H : AHeap) : Prop :=
  B1 P x0 x1 H
theorem q2 (P : PT) : QB Tryz.prog T0 9 o2 (En 9 k0 (B1 P)) k0 (B2 P) := fun _ _ _ _  => by kernel_rfl
noncomputable def code : Code := (.seq (.region 0 ⟨o2⟩ false) (.seq (.region 1 ⟨o1⟩ false) .ret))
theorem body : Tryz.f216.body = some code := by kernel_rfl
theorem main (P : PT) : ∀ env H, (En 9 k0 (B2 P)) env H → AW Tryz.prog T0 code env H (mkQ (ret P) (fun _ _ _ => False) (ret P)) :=
  (r_seq (rB T0_ok (q2 P)) (r_seq (rB T0_ok (q1 P)) r_ret))
theorem ac (P : PT) (x0 x1 : Value) (H : AHeap) (h : B2 P x0 x1 H) : AC Tryz.prog T0 216 [x0, x1] H P :=
  r_fn T0_ok (c := code) (n := 9) Tryz.func216 body (by kernel_rfl) (main P) (En_mk (x0, x1, ()) (by kernel_rfl) ⟨by kernel_rfl, by kernel_rfl, trivial⟩ h)

end F216
-- loop.example/g01329/impl.areAll[loop.example/g01329/impl.Edge]$1
namespace F217
noncomputable def ret (P : PT) : EP := retE T0 8 Tryz.f217 P
abbrev k0 : Sk := [(1,.v),(2,.x)]
noncomputable def o1 := ob Tryz.f217 [.r,.l]
def B1 (P : PT) (x1 : Value) (x2 : Nat) (H : AHeap) : Prop :=
  asP x1 (fun b1 o2 => ld1 H b1 o2 (fun v3 => ldI .i64 H x2 0 (fun v4 => ldI .i64 H x2 1 (fun v5 => callV Tryz.prog T0 v3 [(Value.agg ⟨[(Value.int .i64 v4), (Value.int .i64 v5)]⟩)] H (fun v6 H7 => asB v6 (fun v8 => P (Value.bool (!v8)) H7))))))
theorem q1 (P : PT) : QB Tryz.prog T0 8 o1 (ret P) k0 (B1 P) := fun _ _ _ _  => by kernel_rfl
abbrev k1 : Sk := [(0,.g [.i,.i]),(1,.v)]
noncomputable def o2 := ob Tryz.f217 [.l]
def B2 (P : PT) (x0a x0b : Int) (x1 : Value) (H : AHeap) : Prop :=
  newK H [(Value.int .i64 x0a), (Value.int .i64 x0b)] 78 (fun b1 H2 => B1 P x1 b1 H2)
theorem q2 (P : PT) : QB Tryz.prog T0 8 o2 (En 8 k0 (B1 P)) k1 (B2 P) := fun _ _ _ _ _  => by kernel_rfl
noncomputable def code : Code := (.seq (.region 0 ⟨o2⟩ false) (.seq (.region 1 ⟨o1⟩ false) .ret))
theorem body : Tryz.f217.body = some code := by kernel_rfl
theorem main (P : PT) : ∀ env H, (En 8 k1 (B2 P)) env H → AW Tryz.prog T0 code env H (mkQ (ret P) (fun _ _ _ => False) (ret P)) :=
  (r_seq (rB T0_ok (q2 P)) (r_seq (rB T0_ok (q1 P)) r_ret))
theorem ac (P : PT) (x0a x0b : Int) (x1 : Value) (H : AHeap) (h : B2 P x0a x0b x1 H) : AC Tryz.prog T0 217 [(Value.agg ⟨[(Value.int .i64 x0a), (Value.int .i64 x0b)]⟩), x1] H P :=
  r_fn T0_ok (c := code) (n := 8) Tryz.func217 body (by kernel_rfl) (main P) (En_mk (x0a, x0b, x1, ()) (by kernel_rfl) ⟨by kernel_rfl, by kernel_rfl, trivial⟩ h)

end F217
-- loop.example/g01329/impl.areAll[int]
namespace F218
noncomputable def ret (P : PT) : EP := retE T0 9 Tryz.f218 P
abbrev k0 : Sk := [(0,.v),(3,.x)]
noncomputable def o1 := ob Tryz.f218 [.r,.l]
def B1 (P : PT) (x0 : Value) (x3 : Nat) (H : AHeap) : Prop :=
  AC Tryz.prog T0 229 [x0, (Value.func (.func 230) ⟨[]⟩ ⟨[(Value.pointer (some ⟨x3, 0, none⟩))]⟩)] H (fun v1 H2 => asB v1 (fun v3 => P (Value.bool (!v3)) H2))
theorem q1 (P : PT) : QB Tryz.prog T0 9 o1 (ret P) k0 (B1 P) := fun _ _ _ _  => by kernel_rfl
abbrev k1 : Sk := [(0,.v),(1,.v)]
noncomputable def o2 := ob Tryz.f218 [.l]
def B2 (P : PT) (x0 x1 : Value) (H : AHeap) : Prop :=
  pif (Value.oneCell' x1) (newK H [x1] 189 (fun b1 H2 => B1 P x0 b1 H2)) False
theorem q2 (P : PT) : QB Tryz.prog T0 9 o2 (En 9 k0 (B1 P)) k1 (B2 P) := fun _ _ _ _  => by kernel_rfl
noncomputable def code : Code := (.seq (.region 0 ⟨o2⟩ false) (.seq (.region 1 ⟨o1⟩ false) .ret))
theorem body : Tryz.f218.body = some code := by kernel_rfl
theorem main (P : PT) : ∀ env H, (En 9 k1 (B2 P)) env H → AW Tryz.prog T0 code env H (mkQ (ret P) (fun _ _ _ => False) (ret P)) :=
  (r_seq (rB T0_ok (q2 P)) (r_seq (rB T0_ok (q1 P)) r_ret))
theorem ac (P : PT) (x0 x1 : Value) (H : AHeap) (h : B2 P x0 x1 H) : AC Tryz.prog T0 218 [x0, x1] H P :=
  r_fn T0_ok (c := code) (n := 9) Tryz.func218 body (by kernel_rfl) (main P) (En_mk (x0, x1, ()) (by kernel_rfl) ⟨by kernel_rfl, by kernel_rfl, trivial⟩ h)

end F218
-- loop.example/g01329/impl.isCubic$1
namespace F219
noncomputable def ret (P : PT) : EP := retE T0 5 Tryz.f219 P
abbrev k0 : Sk := [(0,.i .i64)]
noncomputable def o1 := ob Tryz.f219 [.r,.l]
def B1 (P : PT) (x0 : Int) (H : AHeap) : Prop :=
  P (Value.bool ((x0 : Int) == 3)) H
theorem q1 (P : PT) : QB Tryz.prog T0 5 o1 (ret P) k0 (B1 P) := fun _ _ _  => by kernel_rfl
noncomputable def o2 := ob Tryz.f219 [.l]
def B2 (P : PT) (x0 : Int) (H : AHeap) : Prop :=
  B1 P x0 H
theorem q2 (P : PT) : QB Tryz.prog T0 5 o2 (En 5 k0 (B1 P)) k0 (B2 P) := fun _ _ _  => by kernel_rfl
noncomputable def code : Code := (.seq (.region 0 ⟨o2⟩ false) (.seq (.region 1 ⟨o1⟩ false) .ret))
theorem body : Tryz.f219.body = some code := by kernel_rfl
theorem main (P : PT) : ∀ env H, (En 5 k0 (B2 P)) env H → AW Tryz.prog T0 code env H (mkQ (ret P) (fun _ _ _ => False) (ret P)) :=
  (r_seq (rB T0_ok (q2 P)) (r_seq (rB T0_ok (q1 P)) r_ret))
theorem ac (P : PT) (x0 : Int) (H : AHeap) (h : B2 P x0 H) : AC Tryz.prog T0 219 [(Value.int .i64 x0)] H P :=
  r_fn T0_ok (c := code) (n := 5) Tryz.func219 body (by kernel_rfl) (main P) (En_mk (x0, ()) (by kernel_rfl) ⟨by kernel_rfl, trivial⟩ h)

end F219
-- slices.IndexFunc[[]int64,int64]
namespace F220
noncomputable def ret (P : PT) : EP := retE T0 19 Tryz.f220 P
abbrev k0 : Sk := []
noncomputable def o1 := ob Tryz.f220 [.r,.r,.l]
def B1 (P : PT) (H : AHeap) : Prop :=
  P (Value.int .i64 (-1)) H
theorem q1 (P : PT) : QB Tryz.prog T0 19 o1 (ret P) k0 (B1 P) := fun _ _  => by kernel_rfl
abbrev k1 : Sk := [(0,.v),(1,.v),(7,.i .i64),(8,.i .i64)]
noncomputable def o3 := ob Tryz.f220 [.r,.l,.r,.l,.l,.r,.r,.r]
def B3 (P : PT) (N2 : NTy k1 Pr) (x0 x1 : Value) (x7 x8 : Int) (H : AHeap) : Prop :=
  N2 x0 x1 x7 (IntKind.i64.wrap (x8 + 1)) H
theorem q3 (P : PT) (N2 : NTy k1 Pr) : QB Tryz.prog T0 19 o3 (En 19 k1 N2) k1 (B3 P N2) := fun _ _ _ _ _ _  => by kernel_rfl
abbrev k2 : Sk := [(5,.i .i64)]
noncomputable def o4 := ob Tryz.f220 [.r,.l,.r,.l,.l,.r,.r,.l,.l,.r,.r,.l,.l]
def B4 (P : PT) (N2 : NTy k1 Pr) (x5 : Int) (H : AHeap) : Prop :=
  P (Value.int .i64 x5) H
theorem q4 (P : PT) (N2 : NTy k1 Pr) : QB Tryz.prog T0 19 o4 (ret P) k2 (B4 P N2) := fun _ _ _  => by kernel_rfl
abbrev k3 : Sk := [(0,.v),(1,.v),(5,.i .i64),(7,.i .i64),(8,.i .i64)]
noncomputable def o5 := ob Tryz.f220 [.r,.l,.r,.l,.l,.r,.r,.l,.l,.r,.l]
def B5 (P : PT) (N2 : NTy k1 Pr) (x0 x1 : Value) (x5 x7 x8 : Int) (H : AHeap) : Prop :=
  idxK x0 x5 1 (fun b1 o2 => ldI .i64 H b1 o2 (fun v3 => callV Tryz.prog T0 x1 [(Value.int .i64 v3)] H (fun v4 H5 => asB v4 (fun v6 => pif v6 (B4 P N2 x5 H5) (B3 P N2 x0 x1 x7 x8 H5)))))
theorem q5 (P : PT) (N2 : NTy k1 Pr) : QB Tryz.prog T0 19 o5 (cnd 16 (En 19 k2 (B4 P N2)) (En 19 k1 (B3 P N2))) k3 (B5 P N2) := fun _ _ _ _ _ _ _  => by kernel_rfl
noncomputable def o6 := ob Tryz.f220 [.r,.l,.r,.l,.l,.r,.r,.l,.l,.l]
def B6 (P : PT) (N2 : NTy k1 Pr) (x0 x1 : Value) (x7 x8 : Int) (H : AHeap) : Prop :=
  B5 P N2 x0 x1 x8 x7 x8 H
theorem q6 (P : PT) (N2 : NTy k1 Pr) : QB Tryz.prog T0 19 o6 (En 19 k3 (B5 P N2)) k1 (B6 P N2) := fun _ _ _ _ _ _  => by kernel_rfl
noncomputable def o7 := ob Tryz.f220 [.r,.l,.r,.l,.l,.l]
def B7 (P : PT) (N2 : NTy k1 Pr) (x0 x1 : Value) (x7 x8 : Int) (H : AHeap) : Prop :=
  pif (decide ((x8 : Int) < x7)) (B6 P N2 x0 x1 x7 x8 H) (B1 P H)
theorem q7 (P : PT) (N2 : NTy k1 Pr) : QB Tryz.prog T0 19 o7 (cnd 9 (En 19 k1 (B6 P N2)) (En 19 k0 (B1 P))) k1 (B7 P N2) := fun _ _ _ _ _ _  => by kernel_rfl
def L2 (P : PT) (x0 x1 : Value) (x7 x8 : Int) (H : AHeap) : Prop :=
  ∃ (I : NTy k1 Pr) (μ : NTy k1 (AHeap → Nat)), I x0 x1 x7 x8 H ∧ ∀ y0 y1 y7 y8 G, I y0 y1 y7 y8 G → B7 P (fun z0 z1 z7 z8 G' => I z0 z1 z7 z8 G' ∧ μ z0 z1 z7 z8 G' < μ y0 y1 y7 y8 G) y0 y1 y7 y8 G
theorem l2 (P : PT) : LQ k1 (L2 P) (B7 P) := fun ⟨_,_,_,_,_⟩ _ ⟨I, μ, h0, hI⟩ => ⟨apT _ I, apT _ μ, h0, fun ⟨_,_,_,_,_⟩ _ h => hI _ _ _ _ _  h⟩
abbrev k4 : Sk := [(0,.v),(1,.v)]
noncomputable def o8 := ob Tryz.f220 [.r,.l,.l]
def B8 (P : PT) (x0 x1 : Value) (H : AHeap) : Prop :=
  lenK x0 (fun n1 => L2 P x0 x1 (n1 : Int) 0 H)
theorem q8 (P : PT) : QB Tryz.prog T0 19 o8 (En 19 k1 (L2 P)) k4 (B8 P) := fun _ _ _ _  => by kernel_rfl
noncomputable def o9 := ob Tryz.f220 [.l]
def B9 (P : PT) (x0 x1 : Value) (H : AHeap) : Prop :=
  B8 P x0 x1 H
theorem q9 (P : PT) : QB Tryz.prog T0 19 o9 (En 19 k4 (B8 P)) k4 (B9 P) := fun _ _ _ _  => by kernel_rfl
noncomputable def code : Code := (.seq (.region 0 ⟨o9⟩ false) (.seq (.seq (.region 1 ⟨o8⟩ false) (.block 0 (.loop (.seq (.region 2 ⟨o7⟩ false) (.seq (.cond (.tmp 9) .skip (.exit 0)) (.seq (.block 1 (.seq (.region 3 ⟨o6⟩ false) (.seq (.region 4 ⟨o5⟩ false) (.cond (.tmp 16) (.seq (.region 5 ⟨o4⟩ false) .ret) .skip)))) (.region 6 ⟨o3⟩ false))))))) (.seq (.region 7 ⟨o1⟩ false) .ret)))
theorem body : Tryz.f220.body = some code := by kernel_rfl
theorem main (P : PT) : ∀ env H, (En 19 k4 (B9 P)) env H → AW Tryz.prog T0 code env H (mkQ (ret P) (fun _ _ _ => False) (ret P)) :=
  (r_seq (rB T0_ok (q9 P)) (r_seq (r_seq (rB T0_ok (q8 P)) (r_block (rL (l2 P) (fun N2 => (r_seq (rB T0_ok (q7 P N2)) (r_seq (r_cond rfl r_skip (r_exit (fun _ _ h => h))) (r_seq (r_block (r_seq (rB T0_ok (q6 P N2)) (r_seq (rB T0_ok (q5 P N2)) (r_cond rfl (r_seq (rB T0_ok (q4 P N2)) r_ret) r_skip)))) (rB T0_ok (q3 P N2))))))))) (r_seq (rB T0_ok (q1 P)) r_ret)))
theorem ac (P : PT) (x0 x1 : Value) (H : AHeap) (h : B9 P x0 x1 H) : AC Tryz.prog T0 220 [x0, x1] H P :=
  r_fn T0_ok (c := code) (n := 19) Tryz.func220 body (by kernel_rfl) (main P) (En_mk (x0, x1, ()) (by kernel_rfl) ⟨by kernel_rfl, by kernel_rfl, trivial⟩ h)

end F220
-- math/bits.Mul
namespace F221
noncomputable def ret (P : PT) : EP := retE T0 30 Tryz.f221 P
abbrev k0 : Sk := [(8,.i .u64),(9,.i .u64)]
noncomputable def o1 := ob Tryz.f221 [.r,.r,.r,.l]
def B1 (P : PT) (x8 x9 : Int) (H : AHeap) : Prop :=
  P (Value.tuple ⟨[(Value.int .u64 x8), (Value.int .u64 x9)]⟩) H
theorem q1 (P : PT) : QB Tryz.prog T0 30 o1 (ret P) k0 (B1 P) := fun _ _ _ _  => by kernel_rfl
abbrev k1 : Sk := [(0,.i .u64),(1,.i .u64)]
noncomputable def o2 := ob Tryz.f221 [.r,.r,.l]
def B2 (P : PT) (x0 x1 : Int) (H : AHeap) : Prop :=
  AC Tryz.prog T0 232 [(Value.int .u64 x0), (Value.int .u64 x1)] H (fun v1 H2 => tup2 v1 (fun v3 v4 => asI .u64 v3 (fun v5 => asI .u64 v4 (fun v6 => B1 P v5 v6 H2))))
theorem q2 (P : PT) : QB Tryz.prog T0 30 o2 (En 30 k0 (B1 P)) k1 (B2 P) := fun _ _ _ _  => by kernel_rfl
noncomputable def o3 := ob Tryz.f221 [.l]
def B3 (P : PT) (x0 x1 : Int) (H : AHeap) : Prop :=
  B2 P x0 x1 H
theorem q3 (P : PT) : QB Tryz.prog T0 30 o3 (En 30 k1 (B2 P)) k1 (B3 P) := fun _ _ _ _  => by kernel_rfl
noncomputable def code : Code := (.seq (.region 0 ⟨o3⟩ false) (.seq (.cond (.const (.bool false)) (codeAt (bodyOf Tryz.f221) [.r,.l,.l]) .skip) (.seq (.region 3 ⟨o2⟩ false) (.seq (.region 4 ⟨o1⟩ false) .ret))))
theorem body : Tryz.f221.body = some code := by kernel_rfl
theorem main (P : PT) : ∀ env H, (En 30 k1 (B3 P)) env H → AW Tryz.prog T0 code env H (mkQ (ret P) (fun _ _ _ => False) (ret P)) :=
  (r_seq (rB T0_ok (q3 P)) (r_seq (r_condF r_skip) (r_seq (rB T0_ok (q2 P)) (r_seq (rB T0_ok (q1 P)) r_ret))))
theorem ac (P : PT) (x0 x1 : Int) (H : AHeap) (h : B3 P x0 x1 H) : AC Tryz.prog T0 221 [(Value.int .u64 x0), (Value.int .u64 x1)] H P :=
  r_fn T0_ok (c := code) (n := 30) Tryz.func221 body (by kernel_rfl) (main P) (En_mk (x0, x1, ()) (by kernel_rfl) ⟨by kernel_rfl, by kernel_rfl, trivial⟩ h)

end F221
end Go.Proofs
