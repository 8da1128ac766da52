import Derived.Test.YtkmjiikgkhhciaaT
set_option linter.unusedVariables false
set_option maxRecDepth 100000
namespace Go.Proofs
open Go.Abs
-- slices.IsSortedFunc[[]loop.example/g01329/impl.Edge,loop.example/g01329/impl.Edge]
namespace F134
noncomputable def ret (P : PT) : EP := retE T0 25 Try.f134 P
abbrev k0 : Sk := []
noncomputable def o1 := ob Try.f134 [.r,.r,.l]
def B1 (P : PT) (H : AHeap) : Prop :=
  P (Value.bool true) H
theorem q1 (P : PT) : QB Try.prog T0 25 o1 (ret P) k0 (B1 P) := fun _ _  => by kernel_rfl
abbrev k1 : Sk := [(0,.v),(1,.v),(5,.i .i64)]
noncomputable def o3 := ob Try.f134 [.r,.l,.r,.l,.l,.r,.r]
def B3 (P : PT) (N2 : NTy k1 Pr) (x0 x1 : Value) (x5 : Int) (H : AHeap) : Prop :=
  N2 x0 x1 (IntKind.i64.wrap (x5 - 1)) H
theorem q3 (P : PT) (N2 : NTy k1 Pr) : QB Try.prog T0 25 o3 (En 25 k1 N2) k1 (B3 P N2) := fun _ _ _ _ _  => by kernel_rfl
noncomputable def o4 := ob Try.f134 [.r,.l,.r,.l,.l,.r,.l,.l,.r,.l,.l]
def B4 (P : PT) (N2 : NTy k1 Pr) (H : AHeap) : Prop :=
  P (Value.bool false) H
theorem q4 (P : PT) (N2 : NTy k1 Pr) : QB Try.prog T0 25 o4 (ret P) k0 (B4 P N2) := fun _ _  => by kernel_rfl
noncomputable def o5 := ob Try.f134 [.r,.l,.r,.l,.l,.r,.l,.l,.l]
def B5 (P : PT) (N2 : NTy k1 Pr) (x0 x1 : Value) (x5 : Int) (H : AHeap) : Prop :=
  idxK x0 x5 2 (fun b1 o2 => ldI .i64 H b1 o2 (fun v3 => ldI .i64 H b1 (o2 + 1) (fun v4 => idxK x0 (IntKind.i64.wrap (x5 - 1)) 2 (fun b5 o6 => ldI .i64 H b5 o6 (fun v7 => ldI .i64 H b5 (o6 + 1) (fun v8 => callV Try.prog T0 x1 [(Value.agg ⟨[(Value.int .i64 v3), (Value.int .i64 v4)]⟩), (Value.agg ⟨[(Value.int .i64 v7), (Value.int .i64 v8)]⟩)] H (fun v9 H10 => asI .i64 v9 (fun v11 => pif (decide ((v11 : Int) < 0)) (B4 P N2 H10) (B3 P N2 x0 x1 x5 H10)))))))))
theorem q5 (P : PT) (N2 : NTy k1 Pr) : QD Try.prog T0 25 o5 [(0, false), (1, false), (2, false), (3, false), (4, false), (5, false), (6, false), (7, false), (8, false), (9, false), (10, false), (11, false)] (cnd 24 (En 25 k0 (B4 P N2)) (En 25 k1 (B3 P N2))) k1 (B5 P N2) := fun _ _ _ _ _  => by kernel_rfl
noncomputable def o6 := ob Try.f134 [.r,.l,.r,.l,.l,.l,.l]
def B6 (P : PT) (N2 : NTy k1 Pr) (x0 x1 : Value) (x5 : Int) (H : AHeap) : Prop :=
  pif (decide ((x5 : Int) > 0)) (B5 P N2 x0 x1 x5 H) (B1 P H)
theorem q6 (P : PT) (N2 : NTy k1 Pr) : QB Try.prog T0 25 o6 (cnd 10 (En 25 k1 (B5 P N2)) (En 25 k0 (B1 P))) k1 (B6 P N2) := fun _ _ _ _ _  => by kernel_rfl
def L2 (P : PT) (x0 x1 : Value) (x5 : Int) (H : AHeap) : Prop :=
  ∃ (I : NTy k1 Pr) (μ : NTy k1 (AHeap → Nat)), I x0 x1 x5 H ∧ ∀ y0 y1 y5 G, I y0 y1 y5 G → B6 P (fun z0 z1 z5 G' => I z0 z1 z5 G' ∧ μ z0 z1 z5 G' < μ y0 y1 y5 G) y0 y1 y5 G
theorem l2 (P : PT) : LQ k1 (L2 P) (B6 P) := fun ⟨_,_,_,_⟩ _ ⟨I, μ, h0, hI⟩ => ⟨apT _ I, apT _ μ, h0, fun ⟨_,_,_,_⟩ _ h => hI _ _ _ _  h⟩
abbrev k2 : Sk := [(0,.v),(1,.v)]
noncomputable def o7 := ob Try.f134 [.r,.l,.l]
def B7 (P : PT) (x0 x1 : Value) (H : AHeap) : Prop :=
  lenK x0 (fun n1 => L2 P x0 x1 (IntKind.i64.wrap ((n1 : Int) - 1)) H)
theorem q7 (P : PT) : QB Try.prog T0 25 o7 (En 25 k1 (L2 P)) k2 (B7 P) := fun _ _ _ _  => by kernel_rfl
noncomputable def o8 := ob Try.f134 [.l]
def B8 (P : PT) (x0 x1 : Value) (H : AHeap) : Prop :=
  B7 P x0 x1 H
theorem q8 (P : PT) : QB Try.prog T0 25 o8 (En 25 k2 (B7 P)) k2 (B8 P) := fun _ _ _ _  => by kernel_rfl
noncomputable def code : Code := (.seq (.region 0 ⟨o8⟩ false) (.seq (.seq (.region 1 ⟨o7⟩ false) (.block 0 (.loop (.seq (.seq (.region 2 ⟨o6⟩ false) (.cond (.tmp 10) .skip (.exit 0))) (.seq (.block 1 (.seq (.region 4 ⟨o5⟩ true) (.cond (.tmp 24) (.seq (.region 5 ⟨o4⟩ false) .ret) .skip))) (.region 3 ⟨o3⟩ false)))))) (.seq (.region 6 ⟨o1⟩ false) .ret)))
theorem body : Try.f134.body = some code := by kernel_rfl
theorem main (P : PT) : ∀ env H, (En 25 k2 (B8 P)) env H → AW Try.prog T0 code env H (mkQ (ret P) (fun _ _ _ => False) (ret P)) :=
  (r_seq (rB T0_ok (q8 P)) (r_seq (r_seq (rB T0_ok (q7 P)) (r_block (rL (l2 P) (fun N2 => (r_seq (r_seq (rB T0_ok (q6 P N2)) (r_cond rfl r_skip (r_exit (fun _ _ h => h)))) (r_seq (r_block (r_seq (rD T0_ok mixed [(0, false), (1, false), (2, false), (3, false), (4, false), (5, false), (6, false), (7, false), (8, false), (9, false), (10, false), (11, false)] (by kernel_rfl) (q5 P N2)) (r_cond rfl (r_seq (rB T0_ok (q4 P N2)) r_ret) r_skip))) (rB T0_ok (q3 P N2)))))))) (r_seq (rB T0_ok (q1 P)) r_ret)))
theorem ac (P : PT) (x0 x1 : Value) (H : AHeap) (h : B8 P x0 x1 H) : AC Try.prog T0 134 [x0, x1] H P :=
  r_fn T0_ok (c := code) (n := 25) Try.func134 body (by kernel_rfl) (main P) (En_mk (x0, x1, ()) (by kernel_rfl) ⟨by kernel_rfl, by kernel_rfl, trivial⟩ h)

end F134
-- loop.example/g01329/impl.compareEdges
namespace F135
noncomputable def ret (P : PT) : EP := retE T0 8 Try.f135 P
abbrev k0 : Sk := [(2,.x),(3,.x)]
noncomputable def o1 := ob Try.f135 [.r,.l]
def B1 (P : PT) (x2 x3 : Nat) (H : AHeap) : Prop :=
  AC Try.prog T0 171 [(Value.slice (some ⟨x2, 0, none⟩) 2 (2 + 1)), (Value.slice (some ⟨x3, 0, none⟩) 2 (2 + 1))] H (fun v1 H2 => asI .i64 v1 (fun v3 => P (Value.int .i64 v3) H2))
theorem q1 (P : PT) : QD Try.prog T0 8 o1 [(0, false), (1, false), (2, false), (3, false)] (ret P) k0 (B1 P) := fun _ _ _ _  => by kernel_rfl
abbrev k1 : Sk := [(0,.g [.i,.i]),(1,.g [.i,.i])]
noncomputable def o2 := ob Try.f135 [.l]
def B2 (P : PT) (x0a x0b x1a x1b : Int) (H : AHeap) : Prop :=
  newK H [(Value.int .i64 x0a), (Value.int .i64 x0b)] 67 (fun b1 H2 => newK H2 [(Value.int .i64 x1a), (Value.int .i64 x1b)] 67 (fun b3 H4 => B1 P b1 b3 H4))
theorem q2 (P : PT) : QB Try.prog T0 8 o2 (En 8 k0 (B1 P)) k1 (B2 P) := fun _ _ _ _ _ _  => by kernel_rfl
noncomputable def code : Code := (.seq (.region 0 ⟨o2⟩ false) (.seq (.region 1 ⟨o1⟩ true) .ret))
theorem body : Try.f135.body = some code := by kernel_rfl
theorem main (P : PT) : ∀ env H, (En 8 k1 (B2 P)) env H → AW Try.prog T0 code env H (mkQ (ret P) (fun _ _ _ => False) (ret P)) :=
  (r_seq (rB T0_ok (q2 P)) (r_seq (rD T0_ok mixed [(0, false), (1, false), (2, false), (3, false)] (by kernel_rfl) (q1 P)) r_ret))
theorem ac (P : PT) (x0a x0b x1a x1b : Int) (H : AHeap) (h : B2 P x0a x0b x1a x1b H) : AC Try.prog T0 135 [(Value.agg ⟨[(Value.int .i64 x0a), (Value.int .i64 x0b)]⟩), (Value.agg ⟨[(Value.int .i64 x1a), (Value.int .i64 x1b)]⟩)] H P :=
  r_fn T0_ok (c := code) (n := 8) Try.func135 body (by kernel_rfl) (main P) (En_mk (x0a, x0b, x1a, x1b, ()) (by kernel_rfl) ⟨by kernel_rfl, by kernel_rfl, trivial⟩ h)

end F135
-- loop.example/g01329/impl.isCubic
namespace F136
noncomputable def ret (P : PT) : EP := retE T0 33 Try.f136 P
abbrev k0 : Sk := [(5,.v)]
noncomputable def o1 := ob Try.f136 [.r,.r,.r,.l]
def B1 (P : PT) (x5 : Value) (H : AHeap) : Prop :=
  AC Try.prog T0 92 [x5, (Value.func (.func 176) ⟨[]⟩ ⟨[]⟩)] H (fun v1 H2 => asB v1 (fun v3 => P (Value.bool v3) H2))
theorem q1 (P : PT) : QB Try.prog T0 33 o1 (ret P) k0 (B1 P) := fun _ _ _  => by kernel_rfl
abbrev k1 : Sk := [(5,.v),(10,.v),(11,.i .i64),(12,.i .i64)]
noncomputable def o3 := ob Try.f136 [.r,.r,.l,.r,.l,.l,.r,.r,.r]
def B3 (P : PT) (N2 : NTy k1 Pr) (x5 x10 : Value) (x11 x12 : Int) (H : AHeap) : Prop :=
  N2 x5 x10 x11 (IntKind.i64.wrap (x12 + 1)) H
theorem q3 (P : PT) (N2 : NTy k1 Pr) : QB Try.prog T0 33 o3 (En 33 k1 N2) k1 (B3 P N2) := fun _ _ _ _ _ _  => by kernel_rfl
abbrev k2 : Sk := [(5,.v),(7,.x),(10,.v),(11,.i .i64),(12,.i .i64)]
noncomputable def o4 := ob Try.f136 [.r,.r,.l,.r,.l,.l,.r,.r,.l,.l,.r,.r]
def B4 (P : PT) (N2 : NTy k1 Pr) (x5 : Value) (x7 : Nat) (x10 : Value) (x11 x12 : Int) (H : AHeap) : Prop :=
  ldI .i64 H x7 1 (fun v1 => idxK x5 v1 1 (fun b2 o3 => ldI .i64 H b2 o3 (fun v4 => idxK x5 v1 1 (fun b5 o6 => stK H b5 o6 [(Value.int .i64 (IntKind.i64.wrap (v4 + 1)))] (fun H7 => B3 P N2 x5 x10 x11 x12 H7)))))
theorem q4 (P : PT) (N2 : NTy k1 Pr) : QB Try.prog T0 33 o4 (En 33 k1 (B3 P N2)) k2 (B4 P N2) := fun _ _ _ _ _ _ _  => by kernel_rfl
noncomputable def o5 := ob Try.f136 [.r,.r,.l,.r,.l,.l,.r,.r,.l,.l,.r,.l]
def B5 (P : PT) (N2 : NTy k1 Pr) (x5 : Value) (x7 : Nat) (x10 : Value) (x11 x12 : Int) (H : AHeap) : Prop :=
  ldI .i64 H x7 0 (fun v1 => idxK x5 v1 1 (fun b2 o3 => ldI .i64 H b2 o3 (fun v4 => idxK x5 v1 1 (fun b5 o6 => stK H b5 o6 [(Value.int .i64 (IntKind.i64.wrap (v4 + 1)))] (fun H7 => B4 P N2 x5 x7 x10 x11 x12 H7)))))
theorem q5 (P : PT) (N2 : NTy k1 Pr) : QB Try.prog T0 33 o5 (En 33 k2 (B4 P N2)) k2 (B5 P N2) := fun _ _ _ _ _ _ _  => by kernel_rfl
noncomputable def o6 := ob Try.f136 [.r,.r,.l,.r,.l,.l,.r,.r,.l,.l,.l]
def B6 (P : PT) (N2 : NTy k1 Pr) (x5 x10 : Value) (x11 x12 : Int) (H : AHeap) : Prop :=
  idxK x10 x12 2 (fun b1 o2 => ldI .i64 H b1 o2 (fun v3 => ldI .i64 H b1 (o2 + 1) (fun v4 => newK H [(Value.int .i64 0), (Value.int .i64 0)] 67 (fun b5 H6 => stK H6 b5 0 [(Value.int .i64 v3), (Value.int .i64 v4)] (fun H7 => B5 P N2 x5 b5 x10 x11 x12 H7)))))
theorem q6 (P : PT) (N2 : NTy k1 Pr) : QB Try.prog T0 33 o6 (En 33 k2 (B5 P N2)) k1 (B6 P N2) := fun _ _ _ _ _ _  => by kernel_rfl
noncomputable def o7 := ob Try.f136 [.r,.r,.l,.r,.l,.l,.l]
def B7 (P : PT) (N2 : NTy k1 Pr) (x5 x10 : Value) (x11 x12 : Int) (H : AHeap) : Prop :=
  pif (decide ((x12 : Int) < x11)) (B6 P N2 x5 x10 x11 x12 H) (B1 P x5 H)
theorem q7 (P : PT) (N2 : NTy k1 Pr) : QB Try.prog T0 33 o7 (cnd 13 (En 33 k1 (B6 P N2)) (En 33 k0 (B1 P))) k1 (B7 P N2) := fun _ _ _ _ _ _  => by kernel_rfl
def L2 (P : PT) (x5 x10 : Value) (x11 x12 : Int) (H : AHeap) : Prop :=
  ∃ (I : NTy k1 Pr) (μ : NTy k1 (AHeap → Nat)), I x5 x10 x11 x12 H ∧ ∀ y5 y10 y11 y12 G, I y5 y10 y11 y12 G → B7 P (fun z5 z10 z11 z12 G' => I z5 z10 z11 z12 G' ∧ μ z5 z10 z11 z12 G' < μ y5 y10 y11 y12 G) y5 y10 y11 y12 G
theorem l2 (P : PT) : LQ k1 (L2 P) (B7 P) := fun ⟨_,_,_,_,_⟩ _ ⟨I, μ, h0, hI⟩ => ⟨apT _ I, apT _ μ, h0, fun ⟨_,_,_,_,_⟩ _ h => hI _ _ _ _ _  h⟩
abbrev k3 : Sk := [(1,.v),(5,.v)]
noncomputable def o8 := ob Try.f136 [.r,.r,.l,.l]
def B8 (P : PT) (x1 x5 : Value) (H : AHeap) : Prop :=
  lenK x1 (fun n1 => L2 P x5 x1 (n1 : Int) 0 H)
theorem q8 (P : PT) : QB Try.prog T0 33 o8 (En 33 k1 (L2 P)) k3 (B8 P) := fun _ _ _ _  => by kernel_rfl
abbrev k4 : Sk := [(0,.i .i64),(1,.v)]
noncomputable def o9 := ob Try.f136 [.r,.l]
def B9 (P : PT) (x0 : Int) (x1 : Value) (H : AHeap) : Prop :=
  mkR H 8 3 [(Value.int .i64 0)] x0 x0 (fun v2 H1 => B8 P x1 v2 H1)
theorem q9 (P : PT) : QB Try.prog T0 33 o9 (En 33 k3 (B8 P)) k4 (B9 P) := fun _ _ _ _  => by kernel_rfl
noncomputable def o10 := ob Try.f136 [.l]
def B10 (P : PT) (x0 : Int) (x1 : Value) (H : AHeap) : Prop :=
  B9 P x0 x1 H
theorem q10 (P : PT) : QB Try.prog T0 33 o10 (En 33 k4 (B9 P)) k4 (B10 P) := fun _ _ _ _  => by kernel_rfl
noncomputable def code : Code := (.seq (.region 0 ⟨o10⟩ false) (.seq (.region 1 ⟨o9⟩ false) (.seq (.seq (.region 2 ⟨o8⟩ false) (.block 0 (.loop (.seq (.region 3 ⟨o7⟩ false) (.seq (.cond (.tmp 13) .skip (.exit 0)) (.seq (.block 1 (.seq (.region 4 ⟨o6⟩ false) (.seq (.region 5 ⟨o5⟩ false) (.region 6 ⟨o4⟩ false)))) (.region 7 ⟨o3⟩ false))))))) (.seq (.region 8 ⟨o1⟩ false) .ret))))
theorem body : Try.f136.body = some code := by kernel_rfl
theorem main (P : PT) : ∀ env H, (En 33 k4 (B10 P)) env H → AW Try.prog T0 code env H (mkQ (ret P) (fun _ _ _ => False) (ret P)) :=
  (r_seq (rB T0_ok (q10 P)) (r_seq (rB T0_ok (q9 P)) (r_seq (r_seq (rB T0_ok (q8 P)) (r_block (rL (l2 P) (fun N2 => (r_seq (rB T0_ok (q7 P N2)) (r_seq (r_cond rfl r_skip (r_exit (fun _ _ h => h))) (r_seq (r_block (r_seq (rB T0_ok (q6 P N2)) (r_seq (rB T0_ok (q5 P N2)) (rB T0_ok (q4 P N2))))) (rB T0_ok (q3 P N2))))))))) (r_seq (rB T0_ok (q1 P)) r_ret))))
theorem ac (P : PT) (x0 : Int) (x1 : Value) (H : AHeap) (h : B10 P x0 x1 H) : AC Try.prog T0 136 [(Value.int .i64 x0), x1] H P :=
  r_fn T0_ok (c := code) (n := 33) Try.func136 body (by kernel_rfl) (main P) (En_mk (x0, x1, ()) (by kernel_rfl) ⟨by kernel_rfl, by kernel_rfl, trivial⟩ h)

end F136
-- (loop.example/g01329/impl.Graph).isEven
namespace F142
noncomputable def ret (P : PT) : EP := retE T0 21 Try.f142 P
abbrev k0 : Sk := []
noncomputable def o1 := ob Try.f142 [.r,.r,.l]
def B1 (P : PT) (H : AHeap) : Prop :=
  P (Value.bool true) H
theorem q1 (P : PT) : QB Try.prog T0 21 o1 (ret P) k0 (B1 P) := fun _ _  => by kernel_rfl
abbrev k1 : Sk := [(1,.i .u64),(2,.x),(7,.i .i64),(8,.i .i64)]
noncomputable def o3 := ob Try.f142 [.r,.l,.r,.l,.l,.r,.r,.r]
def B3 (P : PT) (N2 : NTy k1 Pr) (x1 : Int) (x2 : Nat) (x7 x8 : Int) (H : AHeap) : Prop :=
  N2 x1 x2 x7 (IntKind.i64.wrap (x8 + 1)) H
theorem q3 (P : PT) (N2 : NTy k1 Pr) : QB Try.prog T0 21 o3 (En 21 k1 N2) k1 (B3 P N2) := fun _ _ _ _ _ _  => by kernel_rfl
noncomputable def o4 := ob Try.f142 [.r,.l,.r,.l,.l,.r,.r,.l,.l,.r,.r,.l,.l]
def B4 (P : PT) (N2 : NTy k1 Pr) (H : AHeap) : Prop :=
  P (Value.bool false) H
theorem q4 (P : PT) (N2 : NTy k1 Pr) : QB Try.prog T0 21 o4 (ret P) k0 (B4 P N2) := fun _ _  => by kernel_rfl
abbrev k2 : Sk := [(1,.i .u64),(2,.x),(5,.i .i64),(7,.i .i64),(8,.i .i64)]
noncomputable def o5 := ob Try.f142 [.r,.l,.r,.l,.l,.r,.r,.l,.l,.r,.l]
def B5 (P : PT) (N2 : NTy k1 Pr) (x1 : Int) (x2 : Nat) (x5 x7 x8 : Int) (H : AHeap) : Prop :=
  ldI .i64 H x2 0 (fun v1 => ld1 H x2 1 (fun v2 => AC Try.prog T0 95 [(Value.agg ⟨[(Value.int .i64 v1), v2]⟩), (Value.int .i64 x5)] H (fun v3 H4 => AC Try.prog T0 58 [v3] H4 (fun v6 H7 => asI .u64 v6 (fun v8 => AC Try.prog T0 66 [(Value.int .u64 (IntKind.u64.wrap (BitVec.ofInt 64 v8 &&& BitVec.ofInt 64 x1).toNat))] H7 (fun v9 H10 => asI .i64 v9 (fun v11 => pif ((Int.tmod v11 2 : Int) != 0) (B4 P N2 H10) (B3 P N2 x1 x2 x7 x8 H10))))))))
theorem q5 (P : PT) (N2 : NTy k1 Pr) : QB Try.prog T0 21 o5 (cnd 19 (En 21 k0 (B4 P N2)) (En 21 k1 (B3 P N2))) k2 (B5 P N2) := fun _ _ _ _ _ _ _  => by kernel_rfl
noncomputable def o6 := ob Try.f142 [.r,.l,.r,.l,.l,.r,.r,.l,.l,.l]
def B6 (P : PT) (N2 : NTy k1 Pr) (x1 : Int) (x2 : Nat) (x7 x8 : Int) (H : AHeap) : Prop :=
  B5 P N2 x1 x2 x8 x7 x8 H
theorem q6 (P : PT) (N2 : NTy k1 Pr) : QB Try.prog T0 21 o6 (En 21 k2 (B5 P N2)) k1 (B6 P N2) := fun _ _ _ _ _ _  => by kernel_rfl
noncomputable def o7 := ob Try.f142 [.r,.l,.r,.l,.l,.l]
def B7 (P : PT) (N2 : NTy k1 Pr) (x1 : Int) (x2 : Nat) (x7 x8 : Int) (H : AHeap) : Prop :=
  pif (decide ((x8 : Int) < x7)) (B6 P N2 x1 x2 x7 x8 H) (B1 P H)
theorem q7 (P : PT) (N2 : NTy k1 Pr) : QB Try.prog T0 21 o7 (cnd 9 (En 21 k1 (B6 P N2)) (En 21 k0 (B1 P))) k1 (B7 P N2) := fun _ _ _ _ _ _  => by kernel_rfl
def L2 (P : PT) (x1 : Int) (x2 : Nat) (x7 x8 : Int) (H : AHeap) : Prop :=
  ∃ (I : NTy k1 Pr) (μ : NTy k1 (AHeap → Nat)), I x1 x2 x7 x8 H ∧ ∀ y1 y2 y7 y8 G, I y1 y2 y7 y8 G → B7 P (fun z1 z2 z7 z8 G' => I z1 z2 z7 z8 G' ∧ μ z1 z2 z7 z8 G' < μ y1 y2 y7 y8 G) y1 y2 y7 y8 G
theorem l2 (P : PT) : LQ k1 (L2 P) (B7 P) := fun ⟨_,_,_,_,_⟩ _ ⟨I, μ, h0, hI⟩ => ⟨apT _ I, apT _ μ, h0, fun ⟨_,_,_,_,_⟩ _ h => hI _ _ _ _ _  h⟩
abbrev k3 : Sk := [(1,.i .u64),(2,.x)]
noncomputable def o8 := ob Try.f142 [.r,.l,.l]
def B8 (P : PT) (x1 : Int) (x2 : Nat) (H : AHeap) : Prop :=
  ldI .i64 H x2 0 (fun v1 => L2 P x1 x2 v1 0 H)
theorem q8 (P : PT) : QB Try.prog T0 21 o8 (En 21 k1 (L2 P)) k3 (B8 P) := fun _ _ _ _  => by kernel_rfl
abbrev k4 : Sk := [(0,.g [.i,.v]),(1,.i .u64)]
noncomputable def o9 := ob Try.f142 [.l]
def B9 (P : PT) (x0a : Int) (x0b : Value) (x1 : Int) (H : AHeap) : Prop :=
  newK H [(Value.int .i64 x0a), x0b] 31 (fun b1 H2 => B8 P x1 b1 H2)
theorem q9 (P : PT) : QB Try.prog T0 21 o9 (En 21 k3 (B8 P)) k4 (B9 P) := fun _ _ _ _ _  => by kernel_rfl
noncomputable def code : Code := (.seq (.region 0 ⟨o9⟩ false) (.seq (.seq (.region 1 ⟨o8⟩ false) (.block 0 (.loop (.seq (.region 2 ⟨o7⟩ false) (.seq (.cond (.tmp 9) .skip (.exit 0)) (.seq (.block 1 (.seq (.region 3 ⟨o6⟩ false) (.seq (.region 4 ⟨o5⟩ false) (.cond (.tmp 19) (.seq (.region 5 ⟨o4⟩ false) .ret) .skip)))) (.region 6 ⟨o3⟩ false))))))) (.seq (.region 7 ⟨o1⟩ false) .ret)))
theorem body : Try.f142.body = some code := by kernel_rfl
theorem main (P : PT) : ∀ env H, (En 21 k4 (B9 P)) env H → AW Try.prog T0 code env H (mkQ (ret P) (fun _ _ _ => False) (ret P)) :=
  (r_seq (rB T0_ok (q9 P)) (r_seq (r_seq (rB T0_ok (q8 P)) (r_block (rL (l2 P) (fun N2 => (r_seq (rB T0_ok (q7 P N2)) (r_seq (r_cond rfl r_skip (r_exit (fun _ _ h => h))) (r_seq (r_block (r_seq (rB T0_ok (q6 P N2)) (r_seq (rB T0_ok (q5 P N2)) (r_cond rfl (r_seq (rB T0_ok (q4 P N2)) r_ret) r_skip)))) (rB T0_ok (q3 P N2))))))))) (r_seq (rB T0_ok (q1 P)) r_ret)))
theorem ac (P : PT) (x0a : Int) (x0b : Value) (x1 : Int) (H : AHeap) (h : B9 P x0a x0b x1 H) : AC Try.prog T0 142 [(Value.agg ⟨[(Value.int .i64 x0a), x0b]⟩), (Value.int .u64 x1)] H P :=
  r_fn T0_ok (c := code) (n := 21) Try.func142 body (by kernel_rfl) (main P) (En_mk (x0a, x0b, x1, ()) (by kernel_rfl) ⟨by kernel_rfl, by kernel_rfl, trivial⟩ h)

end F142
-- slices.ContainsFunc[[]int,int]
namespace F143
noncomputable def ret (P : PT) : EP := retE T0 9 Try.f143 P
abbrev k0 : Sk := [(0,.v),(1,.v)]
noncomputable def o1 := ob Try.f143 [.r,.l]
def B1 (P : PT) (x0 x1 : Value) (H : AHeap) : Prop :=
  AC Try.prog T0 179 [x0, x1] H (fun v1 H2 => asI .i64 v1 (fun v3 => P (Value.bool (decide ((v3 : Int) ≥ 0))) H2))
theorem q1 (P : PT) : QB Try.prog T0 9 o1 (ret P) k0 (B1 P) := fun _ _ _ _  => by kernel_rfl
noncomputable def o2 := ob Try.f143 [.l]
def B2 (P : PT) (x0 x1 : Value) (H : AHeap) : Prop :=
  B1 P x0 x1 H
theorem q2 (P : PT) : QB Try.prog T0 9 o2 (En 9 k0 (B1 P)) k0 (B2 P) := fun _ _ _ _  => by kernel_rfl
noncomputable def code : Code := (.seq (.region 0 ⟨o2⟩ false) (.seq (.region 1 ⟨o1⟩ false) .ret))
theorem body : Try.f143.body = some code := by kernel_rfl
theorem main (P : PT) : ∀ env H, (En 9 k0 (B2 P)) env H → AW Try.prog T0 code env H (mkQ (ret P) (fun _ _ _ => False) (ret P)) :=
  (r_seq (rB T0_ok (q2 P)) (r_seq (rB T0_ok (q1 P)) r_ret))
theorem ac (P : PT) (x0 x1 : Value) (H : AHeap) (h : B2 P x0 x1 H) : AC Try.prog T0 143 [x0, x1] H P :=
  r_fn T0_ok (c := code) (n := 9) Try.func143 body (by kernel_rfl) (main P) (En_mk (x0, x1, ()) (by kernel_rfl) ⟨by kernel_rfl, by kernel_rfl, trivial⟩ h)

end F143
-- loop.example/g01329/impl.areAll[int]$1
namespace F144
noncomputable def ret (P : PT) : EP := retE T0 8 Try.f144 P
abbrev k0 : Sk := [(0,.i .i64),(1,.v)]
noncomputable def o1 := ob Try.f144 [.r,.l]
def B1 (P : PT) (x0 : Int) (x1 : Value) (H : AHeap) : Prop :=
  asP x1 (fun b1 o2 => ld1 H b1 o2 (fun v3 => callV Try.prog T0 v3 [(Value.int .i64 x0)] H (fun v4 H5 => asB v4 (fun v6 => P (Value.bool (!v6)) H5))))
theorem q1 (P : PT) : QB Try.prog T0 8 o1 (ret P) k0 (B1 P) := fun _ _ _ _  => by kernel_rfl
noncomputable def o2 := ob Try.f144 [.l]
def B2 (P : PT) (x0 : Int) (x1 : Value) (H : AHeap) : Prop :=
  B1 P x0 x1 H
theorem q2 (P : PT) : QB Try.prog T0 8 o2 (En 8 k0 (B1 P)) k0 (B2 P) := fun _ _ _ _  => by kernel_rfl
noncomputable def code : Code := (.seq (.region 0 ⟨o2⟩ false) (.seq (.region 1 ⟨o1⟩ false) .ret))
theorem body : Try.f144.body = some code := by kernel_rfl
theorem main (P : PT) : ∀ env H, (En 8 k0 (B2 P)) env H → AW Try.prog T0 code env H (mkQ (ret P) (fun _ _ _ => False) (ret P)) :=
  (r_seq (rB T0_ok (q2 P)) (r_seq (rB T0_ok (q1 P)) r_ret))
theorem ac (P : PT) (x0 : Int) (x1 : Value) (H : AHeap) (h : B2 P x0 x1 H) : AC Try.prog T0 144 [(Value.int .i64 x0), x1] H P :=
  r_fn T0_ok (c := code) (n := 8) Try.func144 body (by kernel_rfl) (main P) (En_mk (x0, x1, ()) (by kernel_rfl) ⟨by kernel_rfl, by kernel_rfl, trivial⟩ h)

end F144
-- (loop.example/g01329/impl.Edge).isOn
namespace F145
noncomputable def ret (P : PT) : EP := retE T0 15 Try.f145 P
abbrev k0 : Sk := [(1,.i .i64),(2,.x)]
noncomputable def o1 := ob Try.f145 [.r,.l]
def B1 (P : PT) (x1 : Int) (x2 : Nat) (H : AHeap) : Prop :=
  ldI .i64 H x2 0 (fun v1 => pif ((v1 : Int) == x1) (P (Value.bool true) H) (ldI .i64 H x2 1 (fun v2 => P (Value.bool ((v2 : Int) == x1)) H)))
theorem q1 (P : PT) : QB Try.prog T0 15 o1 (ret P) k0 (B1 P) := fun _ _ _ _  => by kernel_rfl
abbrev k1 : Sk := [(0,.g [.i,.i]),(1,.i .i64)]
noncomputable def o2 := ob Try.f145 [.l]
def B2 (P : PT) (x0a x0b x1 : Int) (H : AHeap) : Prop :=
  newK H [(Value.int .i64 x0a), (Value.int .i64 x0b)] 67 (fun b1 H2 => B1 P x1 b1 H2)
theorem q2 (P : PT) : QB Try.prog T0 15 o2 (En 15 k0 (B1 P)) k1 (B2 P) := fun _ _ _ _ _  => by kernel_rfl
noncomputable def code : Code := (.seq (.region 0 ⟨o2⟩ false) (.seq (.region 1 ⟨o1⟩ false) .ret))
theorem body : Try.f145.body = some code := by kernel_rfl
theorem main (P : PT) : ∀ env H, (En 15 k1 (B2 P)) env H → AW Try.prog T0 code env H (mkQ (ret P) (fun _ _ _ => False) (ret P)) :=
  (r_seq (rB T0_ok (q2 P)) (r_seq (rB T0_ok (q1 P)) r_ret))
theorem ac (P : PT) (x0a x0b x1 : Int) (H : AHeap) (h : B2 P x0a x0b x1 H) : AC Try.prog T0 145 [(Value.agg ⟨[(Value.int .i64 x0a), (Value.int .i64 x0b)]⟩), (Value.int .i64 x1)] H P :=
  r_fn T0_ok (c := code) (n := 15) Try.func145 body (by kernel_rfl) (main P) (En_mk (x0a, x0b, x1, ()) (by kernel_rfl) ⟨by kernel_rfl, by kernel_rfl, trivial⟩ h)

end F145
-- slices.ContainsFunc[[]loop.example/g01329/impl.set,loop.example/g01329/impl.set]
namespace F152
noncomputable def ret (P : PT) : EP := retE T0 9 Try.f152 P
abbrev k0 : Sk := [(0,.v),(1,.v)]
noncomputable def o1 := ob Try.f152 [.r,.l]
def B1 (P : PT) (x0 x1 : Value) (H : AHeap) : Prop :=
  AC Try.prog T0 167 [x0, x1] H (fun v1 H2 => asI .i64 v1 (fun v3 => P (Value.bool (decide ((v3 : Int) ≥ 0))) H2))
theorem q1 (P : PT) : QB Try.prog T0 9 o1 (ret P) k0 (B1 P) := fun _ _ _ _  => by kernel_rfl
noncomputable def o2 := ob Try.f152 [.l]
def B2 (P : PT) (x0 x1 : Value) (H : AHeap) : Prop :=
  B1 P x0 x1 H
theorem q2 (P : PT) : QB Try.prog T0 9 o2 (En 9 k0 (B1 P)) k0 (B2 P) := fun _ _ _ _  => by kernel_rfl
noncomputable def code : Code := (.seq (.region 0 ⟨o2⟩ false) (.seq (.region 1 ⟨o1⟩ false) .ret))
theorem body : Try.f152.body = some code := by kernel_rfl
theorem main (P : PT) : ∀ env H, (En 9 k0 (B2 P)) env H → AW Try.prog T0 code env H (mkQ (ret P) (fun _ _ _ => False) (ret P)) :=
  (r_seq (rB T0_ok (q2 P)) (r_seq (rB T0_ok (q1 P)) r_ret))
theorem ac (P : PT) (x0 x1 : Value) (H : AHeap) (h : B2 P x0 x1 H) : AC Try.prog T0 152 [x0, x1] H P :=
  r_fn T0_ok (c := code) (n := 9) Try.func152 body (by kernel_rfl) (main P) (En_mk (x0, x1, ()) (by kernel_rfl) ⟨by kernel_rfl, by kernel_rfl, trivial⟩ h)

end F152
-- (loop.example/g01329/impl.Graph).cycles$1
namespace F153
noncomputable def ret (P : PT) : EP := retE T0 7 Try.f153 P
abbrev k0 : Sk := [(0,.i .u64),(1,.v)]
noncomputable def o1 := ob Try.f153 [.r,.l]
def B1 (P : PT) (x0 : Int) (x1 : Value) (H : AHeap) : Prop :=
  asP x1 (fun b1 o2 => ldI .i64 H b1 o2 (fun v3 => AC Try.prog T0 79 [(Value.int .u64 x0), (Value.int .i64 v3)] H (fun v4 H5 => asB v4 (fun v6 => P (Value.bool v6) H5))))
theorem q1 (P : PT) : QB Try.prog T0 7 o1 (ret P) k0 (B1 P) := fun _ _ _ _  => by kernel_rfl
noncomputable def o2 := ob Try.f153 [.l]
def B2 (P : PT) (x0 : Int) (x1 : Value) (H : AHeap) : Prop :=
  B1 P x0 x1 H
theorem q2 (P : PT) : QB Try.prog T0 7 o2 (En 7 k0 (B1 P)) k0 (B2 P) := fun _ _ _ _  => by kernel_rfl
noncomputable def code : Code := (.seq (.region 0 ⟨o2⟩ false) (.seq (.region 1 ⟨o1⟩ false) .ret))
theorem body : Try.f153.body = some code := by kernel_rfl
theorem main (P : PT) : ∀ env H, (En 7 k0 (B2 P)) env H → AW Try.prog T0 code env H (mkQ (ret P) (fun _ _ _ => False) (ret P)) :=
  (r_seq (rB T0_ok (q2 P)) (r_seq (rB T0_ok (q1 P)) r_ret))
theorem ac (P : PT) (x0 : Int) (x1 : Value) (H : AHeap) (h : B2 P x0 x1 H) : AC Try.prog T0 153 [(Value.int .u64 x0), x1] H P :=
  r_fn T0_ok (c := code) (n := 7) Try.func153 body (by kernel_rfl) (main P) (En_mk (x0, x1, ()) (by kernel_rfl) ⟨by kernel_rfl, by kernel_rfl, trivial⟩ h)

end F153
-- math/bits.Len64
namespace F164
noncomputable def ret (P : PT) : EP := retE T0 25 Try.f164 P
abbrev k0 : Sk := [(0,.i .u64),(2,.i .i64)]
noncomputable def o1 := ob Try.f164 [.r,.r,.r,.r,.l]
def B1 (P : PT) (x0 x2 : Int) (H : AHeap) : Prop :=
  bndK (IntKind.u8.wrap x0) (ByteArray.size (ByteArray.mk (List.toArray (List.append (List.append [0, 1, 2, 2, 3, 3, 3, 3, 4, 4, 4, 4, 4, 4, 4, 4, 5, 5, 5, 5, 5, 5, 5, 5, 5, 5, 5, 5, 5, 5, 5, 5, 6, 6, 6, 6, 6, 6, 6, 6, 6, 6, 6, 6, 6, 6, 6, 6, 6, 6, 6, 6, 6, 6, 6, 6, 6, 6, 6, 6, 6, 6, 6, 6] [7, 7, 7, 7, 7, 7, 7, 7, 7, 7, 7, 7, 7, 7, 7, 7, 7, 7, 7, 7, 7, 7, 7, 7, 7, 7, 7, 7, 7, 7, 7, 7, 7, 7, 7, 7, 7, 7, 7, 7, 7, 7, 7, 7, 7, 7, 7, 7, 7, 7, 7, 7, 7, 7, 7, 7, 7, 7, 7, 7, 7, 7, 7, 7]) (List.append [8, 8, 8, 8, 8, 8, 8, 8, 8, 8, 8, 8, 8, 8, 8, 8, 8, 8, 8, 8, 8, 8, 8, 8, 8, 8, 8, 8, 8, 8, 8, 8, 8, 8, 8, 8, 8, 8, 8, 8, 8, 8, 8, 8, 8, 8, 8, 8, 8, 8, 8, 8, 8, 8, 8, 8, 8, 8, 8, 8, 8, 8, 8, 8] [8, 8, 8, 8, 8, 8, 8, 8, 8, 8, 8, 8, 8, 8, 8, 8, 8, 8, 8, 8, 8, 8, 8, 8, 8, 8, 8, 8, 8, 8, 8, 8, 8, 8, 8, 8, 8, 8, 8, 8, 8, 8, 8, 8, 8, 8, 8, 8, 8, 8, 8, 8, 8, 8, 8, 8, 8, 8, 8, 8, 8, 8, 8, 8]))))) (P (Value.int .i64 (IntKind.i64.wrap (x2 + (IntKind.i64.wrap (((ByteArray.mk (List.toArray (List.append (List.append [0, 1, 2, 2, 3, 3, 3, 3, 4, 4, 4, 4, 4, 4, 4, 4, 5, 5, 5, 5, 5, 5, 5, 5, 5, 5, 5, 5, 5, 5, 5, 5, 6, 6, 6, 6, 6, 6, 6, 6, 6, 6, 6, 6, 6, 6, 6, 6, 6, 6, 6, 6, 6, 6, 6, 6, 6, 6, 6, 6, 6, 6, 6, 6] [7, 7, 7, 7, 7, 7, 7, 7, 7, 7, 7, 7, 7, 7, 7, 7, 7, 7, 7, 7, 7, 7, 7, 7, 7, 7, 7, 7, 7, 7, 7, 7, 7, 7, 7, 7, 7, 7, 7, 7, 7, 7, 7, 7, 7, 7, 7, 7, 7, 7, 7, 7, 7, 7, 7, 7, 7, 7, 7, 7, 7, 7, 7, 7]) (List.append [8, 8, 8, 8, 8, 8, 8, 8, 8, 8, 8, 8, 8, 8, 8, 8, 8, 8, 8, 8, 8, 8, 8, 8, 8, 8, 8, 8, 8, 8, 8, 8, 8, 8, 8, 8, 8, 8, 8, 8, 8, 8, 8, 8, 8, 8, 8, 8, 8, 8, 8, 8, 8, 8, 8, 8, 8, 8, 8, 8, 8, 8, 8, 8] [8, 8, 8, 8, 8, 8, 8, 8, 8, 8, 8, 8, 8, 8, 8, 8, 8, 8, 8, 8, 8, 8, 8, 8, 8, 8, 8, 8, 8, 8, 8, 8, 8, 8, 8, 8, 8, 8, 8, 8, 8, 8, 8, 8, 8, 8, 8, 8, 8, 8, 8, 8, 8, 8, 8, 8, 8, 8, 8, 8, 8, 8, 8, 8])))).data.toList.getD (Int.toNat (IntKind.u8.wrap x0)) 0).toNat : Int))))) H)
theorem q1 (P : PT) : QB Try.prog T0 25 o1 (ret P) k0 (B1 P) := fun _ _ _ _  => by kernel_rfl
noncomputable def o2 := ob Try.f164 [.r,.r,.r,.l,.r,.l,.r]
def B2 (P : PT) (x0 x2 : Int) (H : AHeap) : Prop :=
  B1 P x0 (IntKind.i64.wrap (x2 + 8)) H
theorem q2 (P : PT) : QB Try.prog T0 25 o2 (En 25 k0 (B1 P)) k0 (B2 P) := fun _ _ _ _  => by kernel_rfl
noncomputable def o3 := ob Try.f164 [.r,.r,.r,.l,.r,.l,.l]
def B3 (P : PT) (x0 x2 : Int) (H : AHeap) : Prop :=
  ((0 : Int) ≤ 8) ∧ (B2 P (Int.fdiv x0 (2 ^ (min (Int.toNat 8) 64))) x2 H)
theorem q3 (P : PT) : QB Try.prog T0 25 o3 (En 25 k0 (B2 P)) k0 (B3 P) := fun _ _ _ _  => by kernel_rfl
noncomputable def o4 := ob Try.f164 [.r,.r,.r,.l,.l]
def B4 (P : PT) (x0 x2 : Int) (H : AHeap) : Prop :=
  pif (decide ((x0 : Int) ≥ 256)) (B3 P x0 x2 H) (B1 P x0 x2 H)
theorem q4 (P : PT) : QB Try.prog T0 25 o4 (cnd 14 (En 25 k0 (B3 P)) (En 25 k0 (B1 P))) k0 (B4 P) := fun _ _ _ _  => by kernel_rfl
noncomputable def o5 := ob Try.f164 [.r,.r,.l,.r,.l,.r]
def B5 (P : PT) (x0 x2 : Int) (H : AHeap) : Prop :=
  B4 P x0 (IntKind.i64.wrap (x2 + 16)) H
theorem q5 (P : PT) : QB Try.prog T0 25 o5 (En 25 k0 (B4 P)) k0 (B5 P) := fun _ _ _ _  => by kernel_rfl
noncomputable def o6 := ob Try.f164 [.r,.r,.l,.r,.l,.l]
def B6 (P : PT) (x0 x2 : Int) (H : AHeap) : Prop :=
  ((0 : Int) ≤ 16) ∧ (B5 P (Int.fdiv x0 (2 ^ (min (Int.toNat 16) 64))) x2 H)
theorem q6 (P : PT) : QB Try.prog T0 25 o6 (En 25 k0 (B5 P)) k0 (B6 P) := fun _ _ _ _  => by kernel_rfl
noncomputable def o7 := ob Try.f164 [.r,.r,.l,.l]
def B7 (P : PT) (x0 x2 : Int) (H : AHeap) : Prop :=
  pif (decide ((x0 : Int) ≥ 65536)) (B6 P x0 x2 H) (B4 P x0 x2 H)
theorem q7 (P : PT) : QB Try.prog T0 25 o7 (cnd 8 (En 25 k0 (B6 P)) (En 25 k0 (B4 P))) k0 (B7 P) := fun _ _ _ _  => by kernel_rfl
abbrev k1 : Sk := [(0,.i .u64)]
noncomputable def o8 := ob Try.f164 [.r,.l,.r,.l,.r]
def B8 (P : PT) (x0 : Int) (H : AHeap) : Prop :=
  B7 P x0 32 H
theorem q8 (P : PT) : QB Try.prog T0 25 o8 (En 25 k0 (B7 P)) k1 (B8 P) := fun _ _ _  => by kernel_rfl
noncomputable def o9 := ob Try.f164 [.r,.l,.r,.l,.l]
def B9 (P : PT) (x0 : Int) (H : AHeap) : Prop :=
  ((0 : Int) ≤ 32) ∧ (B8 P (Int.fdiv x0 (2 ^ (min (Int.toNat 32) 64))) H)
theorem q9 (P : PT) : QB Try.prog T0 25 o9 (En 25 k1 (B8 P)) k1 (B9 P) := fun _ _ _  => by kernel_rfl
noncomputable def o10 := ob Try.f164 [.r,.l,.l]
def B10 (P : PT) (x0 x2 : Int) (H : AHeap) : Prop :=
  pif (decide ((x0 : Int) ≥ 4294967296)) (B9 P x0 H) (B7 P x0 x2 H)
theorem q10 (P : PT) : QB Try.prog T0 25 o10 (cnd 4 (En 25 k1 (B9 P)) (En 25 k0 (B7 P))) k0 (B10 P) := fun _ _ _ _  => by kernel_rfl
noncomputable def o11 := ob Try.f164 [.l]
def B11 (P : PT) (x0 : Int) (H : AHeap) : Prop :=
  B10 P x0 0 H
theorem q11 (P : PT) : QB Try.prog T0 25 o11 (En 25 k0 (B10 P)) k1 (B11 P) := fun _ _ _  => by kernel_rfl
noncomputable def code : Code := (.seq (.region 0 ⟨o11⟩ false) (.seq (.seq (.region 1 ⟨o10⟩ false) (.cond (.tmp 4) (.seq (.region 2 ⟨o9⟩ false) (.region 3 ⟨o8⟩ false)) .skip)) (.seq (.seq (.region 4 ⟨o7⟩ false) (.cond (.tmp 8) (.seq (.region 5 ⟨o6⟩ false) (.region 6 ⟨o5⟩ false)) .skip)) (.seq (.seq (.region 7 ⟨o4⟩ false) (.cond (.tmp 14) (.seq (.region 8 ⟨o3⟩ false) (.region 9 ⟨o2⟩ false)) .skip)) (.seq (.region 10 ⟨o1⟩ false) .ret)))))
theorem body : Try.f164.body = some code := by kernel_rfl
theorem main (P : PT) : ∀ env H, (En 25 k1 (B11 P)) env H → AW Try.prog T0 code env H (mkQ (ret P) (fun _ _ _ => False) (ret P)) :=
  (r_seq (rB T0_ok (q11 P)) (r_seq (r_seq (rB T0_ok (q10 P)) (r_cond rfl (r_seq (rB T0_ok (q9 P)) (rB T0_ok (q8 P))) r_skip)) (r_seq (r_seq (rB T0_ok (q7 P)) (r_cond rfl (r_seq (rB T0_ok (q6 P)) (rB T0_ok (q5 P))) r_skip)) (r_seq (r_seq (rB T0_ok (q4 P)) (r_cond rfl (r_seq (rB T0_ok (q3 P)) (rB T0_ok (q2 P))) r_skip)) (r_seq (rB T0_ok (q1 P)) r_ret)))))
theorem ac (P : PT) (x0 : Int) (H : AHeap) (h : B11 P x0 H) : AC Try.prog T0 164 [(Value.int .u64 x0)] H P :=
  r_fn T0_ok (c := code) (n := 25) Try.func164 body (by kernel_rfl) (main P) (En_mk (x0, ()) (by kernel_rfl) ⟨by kernel_rfl, trivial⟩ h)

end F164
-- loop.example/g01329/spec.l07Sort
namespace F165
noncomputable def ret (P : PT) : EP := retE T0 54 Try.f165 P
abbrev k0 : Sk := [(3,.v)]
noncomputable def o1 := ob Try.f165 [.r,.r,.r,.l]
def B1 (P : PT) (x3 : Value) (H : AHeap) : Prop :=
  P x3 H
theorem q1 (P : PT) : QB Try.prog T0 54 o1 (ret P) k0 (B1 P) := fun _ _ _  => by kernel_rfl
abbrev k1 : Sk := [(0,.v),(3,.v),(4,.i .i64)]
noncomputable def o3 := ob Try.f165 [.r,.r,.l,.r,.l,.l,.r,.r]
def B3 (P : PT) (N2 : NTy k1 Pr) (x0 x3 : Value) (x4 : Int) (H : AHeap) : Prop :=
  N2 x0 x3 (IntKind.i64.wrap (x4 + 1)) H
theorem q3 (P : PT) (N2 : NTy k1 Pr) : QB Try.prog T0 54 o3 (En 54 k1 N2) k1 (B3 P N2) := fun _ _ _ _ _  => by kernel_rfl
abbrev k2 : Sk := [(0,.v),(3,.v),(4,.i .i64),(5,.i .i64)]
noncomputable def o4 := ob Try.f165 [.r,.r,.l,.r,.l,.l,.r,.l,.l,.r,.r,.r]
def B4 (P : PT) (N2 : NTy k1 Pr) (x0 x3 : Value) (x4 x5 : Int) (H : AHeap) : Prop :=
  idxK x0 x4 1 (fun b1 o2 => ldI .i64 H b1 o2 (fun v3 => idxK x3 x5 1 (fun b4 o5 => stK H b4 o5 [(Value.int .i64 v3)] (fun H6 => B3 P N2 x0 x3 x4 H6))))
theorem q4 (P : PT) (N2 : NTy k1 Pr) : QB Try.prog T0 54 o4 (En 54 k1 (B3 P N2)) k2 (B4 P N2) := fun _ _ _ _ _ _  => by kernel_rfl
noncomputable def o6 := ob Try.f165 [.r,.r,.l,.r,.l,.l,.r,.l,.l,.r,.r,.l,.l,.l,.r,.l,.r]
def B6 (P : PT) (N2 : NTy k1 Pr) (N5 : NTy k2 Pr) (x0 x3 : Value) (x4 x5 : Int) (H : AHeap) : Prop :=
  N5 x0 x3 x4 (IntKind.i64.wrap (x5 - 1)) H
theorem q6 (P : PT) (N2 : NTy k1 Pr) (N5 : NTy k2 Pr) : QB Try.prog T0 54 o6 (En 54 k2 N5) k2 (B6 P N2 N5) := fun _ _ _ _ _ _  => by kernel_rfl
noncomputable def o7 := ob Try.f165 [.r,.r,.l,.r,.l,.l,.r,.l,.l,.r,.r,.l,.l,.l,.r,.l,.l]
def B7 (P : PT) (N2 : NTy k1 Pr) (N5 : NTy k2 Pr) (x0 x3 : Value) (x4 x5 : Int) (H : AHeap) : Prop :=
  idxK x3 (IntKind.i64.wrap (x5 - 1)) 1 (fun b1 o2 => ldI .i64 H b1 o2 (fun v3 => idxK x3 x5 1 (fun b4 o5 => stK H b4 o5 [(Value.int .i64 v3)] (fun H6 => B6 P N2 N5 x0 x3 x4 x5 H6))))
theorem q7 (P : PT) (N2 : NTy k1 Pr) (N5 : NTy k2 Pr) : QB Try.prog T0 54 o7 (En 54 k2 (B6 P N2 N5)) k2 (B7 P N2 N5) := fun _ _ _ _ _ _  => by kernel_rfl
noncomputable def o8 := ob Try.f165 [.r,.r,.l,.r,.l,.l,.r,.l,.l,.r,.r,.l,.l,.l,.l,.l]
def B8 (P : PT) (N2 : NTy k1 Pr) (N5 : NTy k2 Pr) (x0 x3 : Value) (x4 x5 : Int) (H : AHeap) : Prop :=
  pif (decide ((x5 : Int) > 0)) (idxK x3 (IntKind.i64.wrap (x5 - 1)) 1 (fun b1 o2 => ldI .i64 H b1 o2 (fun v3 => idxK x0 x4 1 (fun b4 o5 => ldI .i64 H b4 o5 (fun v6 => pif (decide ((v3 : Int) > v6)) (B7 P N2 N5 x0 x3 x4 x5 H) (B4 P N2 x0 x3 x4 x5 H)))))) (B4 P N2 x0 x3 x4 x5 H)
theorem q8 (P : PT) (N2 : NTy k1 Pr) (N5 : NTy k2 Pr) : QD Try.prog T0 54 o8 [(0, false), (1, false), (2, false), (3, false), (4, false), (5, false), (6, false), (7, false), (8, false), (9, false), (10, false), (11, false), (12, false), (13, false)] (cnd 35 (En 54 k2 (B7 P N2 N5)) (En 54 k2 (B4 P N2))) k2 (B8 P N2 N5) := fun _ _ _ _ _ _  => by kernel_rfl
def L5 (P : PT) (N2 : NTy k1 Pr) (x0 x3 : Value) (x4 x5 : Int) (H : AHeap) : Prop :=
  ∃ (I : NTy k2 Pr) (μ : NTy k2 (AHeap → Nat)), I x0 x3 x4 x5 H ∧ ∀ y0 y3 y4 y5 G, I y0 y3 y4 y5 G → B8 P N2 (fun z0 z3 z4 z5 G' => I z0 z3 z4 z5 G' ∧ μ z0 z3 z4 z5 G' < μ y0 y3 y4 y5 G) y0 y3 y4 y5 G
theorem l5 (P : PT) (N2 : NTy k1 Pr) : LQ k2 (L5 P N2) (B8 P N2) := fun ⟨_,_,_,_,_⟩ _ ⟨I, μ, h0, hI⟩ => ⟨apT _ I, apT _ μ, h0, fun ⟨_,_,_,_,_⟩ _ h => hI _ _ _ _ _  h⟩
noncomputable def o9 := ob Try.f165 [.r,.r,.l,.r,.l,.l,.r,.l,.l,.r,.l]
def B9 (P : PT) (N2 : NTy k1 Pr) (x0 x3 : Value) (x4 x5 : Int) (H : AHeap) : Prop :=
  idxK x0 x4 1 (fun b1 o2 => ldI .i64 H b1 o2 (fun v3 => newK H [(Value.int .i64 v3)] 2 (fun b4 H5 => apK T0 2 H5 x3 (Value.slice (some ⟨b4, 0, none⟩) 1 (1 + 1)) (fun v6 H7 => L5 P N2 x0 v6 x4 x5 H7))))
theorem q9 (P : PT) (N2 : NTy k1 Pr) : QB Try.prog T0 54 o9 (En 54 k2 (L5 P N2)) k2 (B9 P N2) := fun _ _ _ _ _ _  => by kernel_rfl
noncomputable def o10 := ob Try.f165 [.r,.r,.l,.r,.l,.l,.r,.l,.l,.l]
def B10 (P : PT) (N2 : NTy k1 Pr) (x0 x3 : Value) (x4 : Int) (H : AHeap) : Prop :=
  lenK x3 (fun n1 => B9 P N2 x0 x3 x4 (n1 : Int) H)
theorem q10 (P : PT) (N2 : NTy k1 Pr) : QB Try.prog T0 54 o10 (En 54 k2 (B9 P N2)) k1 (B10 P N2) := fun _ _ _ _ _  => by kernel_rfl
noncomputable def o11 := ob Try.f165 [.r,.r,.l,.r,.l,.l,.l,.l]
def B11 (P : PT) (N2 : NTy k1 Pr) (x0 x3 : Value) (x4 : Int) (H : AHeap) : Prop :=
  lenK x0 (fun n1 => pif (decide ((x4 : Int) < (n1 : Int))) (B10 P N2 x0 x3 x4 H) (B1 P x3 H))
theorem q11 (P : PT) (N2 : NTy k1 Pr) : QB Try.prog T0 54 o11 (cnd 10 (En 54 k1 (B10 P N2)) (En 54 k0 (B1 P))) k1 (B11 P N2) := fun _ _ _ _ _  => by kernel_rfl
def L2 (P : PT) (x0 x3 : Value) (x4 : Int) (H : AHeap) : Prop :=
  ∃ (I : NTy k1 Pr) (μ : NTy k1 (AHeap → Nat)), I x0 x3 x4 H ∧ ∀ y0 y3 y4 G, I y0 y3 y4 G → B11 P (fun z0 z3 z4 G' => I z0 z3 z4 G' ∧ μ z0 z3 z4 G' < μ y0 y3 y4 G) y0 y3 y4 G
theorem l2 (P : PT) : LQ k1 (L2 P) (B11 P) := fun ⟨_,_,_,_⟩ _ ⟨I, μ, h0, hI⟩ => ⟨apT _ I, apT _ μ, h0, fun ⟨_,_,_,_⟩ _ h => hI _ _ _ _  h⟩
abbrev k3 : Sk := [(0,.v),(3,.v)]
noncomputable def o12 := ob Try.f165 [.r,.r,.l,.l]
def B12 (P : PT) (x0 x3 : Value) (H : AHeap) : Prop :=
  L2 P x0 x3 0 H
theorem q12 (P : PT) : QB Try.prog T0 54 o12 (En 54 k1 (L2 P)) k3 (B12 P) := fun _ _ _ _  => by kernel_rfl
abbrev k4 : Sk := [(0,.v)]
noncomputable def o13 := ob Try.f165 [.r,.l]
def B13 (P : PT) (x0 : Value) (H : AHeap) : Prop :=
  newK H [] 2 (fun b1 H2 => B12 P x0 (Value.slice (some ⟨b1, 0, none⟩) 0 (0 + 1)) H2)
theorem q13 (P : PT) : QB Try.prog T0 54 o13 (En 54 k3 (B12 P)) k4 (B13 P) := fun _ _ _  => by kernel_rfl
noncomputable def o14 := ob Try.f165 [.l]
def B14 (P : PT) (x0 : Value) (H : AHeap) : Prop :=
  B13 P x0 H
theorem q14 (P : PT) : QB Try.prog T0 54 o14 (En 54 k4 (B13 P)) k4 (B14 P) := fun _ _ _  => by kernel_rfl
noncomputable def code : Code := (.seq (.region 0 ⟨o14⟩ false) (.seq (.region 1 ⟨o13⟩ false) (.seq (.seq (.region 2 ⟨o12⟩ false) (.block 0 (.loop (.seq (.seq (.region 3 ⟨o11⟩ false) (.cond (.tmp 10) .skip (.exit 0))) (.seq (.block 1 (.seq (.region 5 ⟨o10⟩ false) (.seq (.region 6 ⟨o9⟩ false) (.seq (.block 2 (.loop (.seq (.seq (.region 7 ⟨o8⟩ true) (.cond (.tmp 35) .skip (.exit 2))) (.block 3 (.seq (.region 8 ⟨o7⟩ false) (.region 9 ⟨o6⟩ false)))))) (.region 10 ⟨o4⟩ false))))) (.region 4 ⟨o3⟩ false)))))) (.seq (.region 11 ⟨o1⟩ false) .ret))))
theorem body : Try.f165.body = some code := by kernel_rfl
theorem main (P : PT) : ∀ env H, (En 54 k4 (B14 P)) env H → AW Try.prog T0 code env H (mkQ (ret P) (fun _ _ _ => False) (ret P)) :=
  (r_seq (rB T0_ok (q14 P)) (r_seq (rB T0_ok (q13 P)) (r_seq (r_seq (rB T0_ok (q12 P)) (r_block (rL (l2 P) (fun N2 => (r_seq (r_seq (rB T0_ok (q11 P N2)) (r_cond rfl r_skip (r_exit (fun _ _ h => h)))) (r_seq (r_block (r_seq (rB T0_ok (q10 P N2)) (r_seq (rB T0_ok (q9 P N2)) (r_seq (r_block (rL (l5 P N2) (fun N5 => (r_seq (r_seq (rD T0_ok mixed [(0, false), (1, false), (2, false), (3, false), (4, false), (5, false), (6, false), (7, false), (8, false), (9, false), (10, false), (11, false), (12, false), (13, false)] (by kernel_rfl) (q8 P N2 N5)) (r_cond rfl r_skip (r_exit (fun _ _ h => h)))) (r_block (r_seq (rB T0_ok (q7 P N2 N5)) (rB T0_ok (q6 P N2 N5)))))))) (rB T0_ok (q4 P N2)))))) (rB T0_ok (q3 P N2)))))))) (r_seq (rB T0_ok (q1 P)) r_ret))))
theorem ac (P : PT) (x0 : Value) (H : AHeap) (h : B14 P x0 H) : AC Try.prog T0 165 [x0] H P :=
  r_fn T0_ok (c := code) (n := 54) Try.func165 body (by kernel_rfl) (main P) (En_mk (x0, ()) (by kernel_rfl) ⟨by kernel_rfl, trivial⟩ h)

end F165
-- (loop.example/g01329/impl.Graph).distances
namespace F166
noncomputable def ret (P : PT) : EP := retE T0 72 Try.f166 P
abbrev k0 : Sk := [(7,.v)]
noncomputable def o1 := ob Try.f166 [.r,.r,.r,.r,.l]
def B1 (P : PT) (x7 : Value) (H : AHeap) : Prop :=
  P x7 H
theorem q1 (P : PT) : QB Try.prog T0 72 o1 (ret P) k0 (B1 P) := fun _ _ _  => by kernel_rfl
abbrev k1 : Sk := [(2,.i .u64),(3,.x),(7,.v),(8,.v)]
noncomputable def o3 := ob Try.f166 [.r,.r,.r,.l,.r,.l,.l,.r,.r]
def B3 (P : PT) (N2 : NTy k1 Pr) (x2 : Int) (x3 : Nat) (x7 x8 : Value) (H : AHeap) : Prop :=
  sliceK H 2 x8 (some (Value.int .i64 1)) none 1 (fun v1 => N2 x2 x3 x7 v1 H)
theorem q3 (P : PT) (N2 : NTy k1 Pr) : QB Try.prog T0 72 o3 (En 72 k1 N2) k1 (B3 P N2) := fun _ _ _ _ _ _  => by kernel_rfl
abbrev k2 : Sk := [(2,.i .u64),(3,.x),(7,.v),(8,.v),(30,.v),(31,.i .i64),(32,.i .i64)]
noncomputable def o5 := ob Try.f166 [.r,.r,.r,.l,.r,.l,.l,.r,.l,.l,.r,.l,.l,.r,.r,.r]
def B5 (P : PT) (N2 : NTy k1 Pr) (N4 : NTy k2 Pr) (x2 : Int) (x3 : Nat) (x7 x8 x30 : Value) (x31 x32 : Int) (H : AHeap) : Prop :=
  N4 x2 x3 x7 x8 x30 x31 (IntKind.i64.wrap (x32 + 1)) H
theorem q5 (P : PT) (N2 : NTy k1 Pr) (N4 : NTy k2 Pr) : QB Try.prog T0 72 o5 (En 72 k2 N4) k2 (B5 P N2 N4) := fun _ _ _ _ _ _ _ _ _  => by kernel_rfl
abbrev k3 : Sk := [(2,.i .u64),(3,.x),(7,.v),(8,.v),(11,.i .i64),(30,.v),(31,.i .i64),(32,.i .i64)]
noncomputable def o6 := ob Try.f166 [.r,.r,.r,.l,.r,.l,.l,.r,.l,.l,.r,.l,.l,.r,.r,.l,.l,.r,.r,.r,.l,.r]
def B6 (P : PT) (N2 : NTy k1 Pr) (N4 : NTy k2 Pr) (x2 : Int) (x3 : Nat) (x7 x8 : Value) (x11 : Int) (x30 : Value) (x31 x32 : Int) (H : AHeap) : Prop :=
  newK H [(Value.int .i64 x11)] 2 (fun b1 H2 => apK T0 2 H2 x8 (Value.slice (some ⟨b1, 0, none⟩) 1 (1 + 1)) (fun v3 H4 => B5 P N2 N4 x2 x3 x7 v3 x30 x31 x32 H4))
theorem q6 (P : PT) (N2 : NTy k1 Pr) (N4 : NTy k2 Pr) : QB Try.prog T0 72 o6 (En 72 k2 (B5 P N2 N4)) k3 (B6 P N2 N4) := fun _ _ _ _ _ _ _ _ _ _  => by kernel_rfl
noncomputable def o7 := ob Try.f166 [.r,.r,.r,.l,.r,.l,.l,.r,.l,.l,.r,.l,.l,.r,.r,.l,.l,.r,.r,.r,.l,.l]
def B7 (P : PT) (N2 : NTy k1 Pr) (N4 : NTy k2 Pr) (x2 : Int) (x3 : Nat) (x7 x8 : Value) (x11 : Int) (x30 : Value) (x31 x32 : Int) (H : AHeap) : Prop :=
  idxK x8 0 1 (fun b1 o2 => ldI .i64 H b1 o2 (fun v3 => idxK x7 v3 1 (fun b4 o5 => ldI .i64 H b4 o5 (fun v6 => idxK x7 x11 1 (fun b7 o8 => stK H b7 o8 [(Value.int .i64 (IntKind.i64.wrap (v6 + 1)))] (fun H9 => B6 P N2 N4 x2 x3 x7 x8 x11 x30 x31 x32 H9))))))
theorem q7 (P : PT) (N2 : NTy k1 Pr) (N4 : NTy k2 Pr) : QB Try.prog T0 72 o7 (En 72 k3 (B6 P N2 N4)) k3 (B7 P N2 N4) := fun _ _ _ _ _ _ _ _ _ _  => by kernel_rfl
abbrev k4 : Sk := [(2,.i .u64),(3,.x),(7,.v),(8,.v),(10,.i .i64),(11,.i .i64),(30,.v),(31,.i .i64),(32,.i .i64)]
noncomputable def o8 := ob Try.f166 [.r,.r,.r,.l,.r,.l,.l,.r,.l,.l,.r,.l,.l,.r,.r,.l,.l,.r,.r,.l]
def B8 (P : PT) (N2 : NTy k1 Pr) (N4 : NTy k2 Pr) (x2 : Int) (x3 : Nat) (x7 x8 : Value) (x10 x11 : Int) (x30 : Value) (x31 x32 : Int) (H : AHeap) : Prop :=
  idxK x7 x11 1 (fun b1 o2 => ldI .i64 H b1 o2 (fun v3 => pif (decide ((v3 : Int) < 0)) (AC Try.prog T0 79 [(Value.int .u64 x2), (Value.int .i64 x10)] H (fun v4 H5 => asB v4 (fun v6 => pif (!v6) (B7 P N2 N4 x2 x3 x7 x8 x11 x30 x31 x32 H5) (B5 P N2 N4 x2 x3 x7 x8 x30 x31 x32 H5)))) (B5 P N2 N4 x2 x3 x7 x8 x30 x31 x32 H)))
theorem q8 (P : PT) (N2 : NTy k1 Pr) (N4 : NTy k2 Pr) : QB Try.prog T0 72 o8 (cnd 55 (En 72 k3 (B7 P N2 N4)) (En 72 k2 (B5 P N2 N4))) k4 (B8 P N2 N4) := fun _ _ _ _ _ _ _ _ _ _ _  => by kernel_rfl
abbrev k5 : Sk := [(2,.i .u64),(3,.x),(7,.v),(8,.v),(10,.i .i64),(30,.v),(31,.i .i64),(32,.i .i64)]
noncomputable def o9 := ob Try.f166 [.r,.r,.r,.l,.r,.l,.l,.r,.l,.l,.r,.l,.l,.r,.r,.l,.l,.r,.l]
def B9 (P : PT) (N2 : NTy k1 Pr) (N4 : NTy k2 Pr) (x2 : Int) (x3 : Nat) (x7 x8 : Value) (x10 : Int) (x30 : Value) (x31 x32 : Int) (H : AHeap) : Prop :=
  ld1 H x3 1 (fun v1 => idxK v1 x10 2 (fun b2 o3 => ldI .i64 H b2 o3 (fun v4 => ldI .i64 H b2 (o3 + 1) (fun v5 => idxK x8 0 1 (fun b6 o7 => ldI .i64 H b6 o7 (fun v8 => AC Try.prog T0 190 [(Value.agg ⟨[(Value.int .i64 v4), (Value.int .i64 v5)]⟩), (Value.int .i64 v8)] H (fun v9 H10 => asI .i64 v9 (fun v11 => B8 P N2 N4 x2 x3 x7 x8 x10 v11 x30 x31 x32 H10))))))))
theorem q9 (P : PT) (N2 : NTy k1 Pr) (N4 : NTy k2 Pr) : QD Try.prog T0 72 o9 [(0, false), (1, false), (2, false), (3, false), (4, false), (5, false), (6, false), (7, false), (8, false), (9, false)] (En 72 k4 (B8 P N2 N4)) k5 (B9 P N2 N4) := fun _ _ _ _ _ _ _ _ _ _  => by kernel_rfl
noncomputable def o10 := ob Try.f166 [.r,.r,.r,.l,.r,.l,.l,.r,.l,.l,.r,.l,.l,.r,.r,.l,.l,.l]
def B10 (P : PT) (N2 : NTy k1 Pr) (N4 : NTy k2 Pr) (x2 : Int) (x3 : Nat) (x7 x8 x30 : Value) (x31 x32 : Int) (H : AHeap) : Prop :=
  idxK x30 x32 1 (fun b1 o2 => ldI .i64 H b1 o2 (fun v3 => B9 P N2 N4 x2 x3 x7 x8 v3 x30 x31 x32 H))
theorem q10 (P : PT) (N2 : NTy k1 Pr) (N4 : NTy k2 Pr) : QB Try.prog T0 72 o10 (En 72 k5 (B9 P N2 N4)) k2 (B10 P N2 N4) := fun _ _ _ _ _ _ _ _ _  => by kernel_rfl
noncomputable def o11 := ob Try.f166 [.r,.r,.r,.l,.r,.l,.l,.r,.l,.l,.r,.l,.l,.l]
def B11 (P : PT) (N2 : NTy k1 Pr) (N4 : NTy k2 Pr) (x2 : Int) (x3 : Nat) (x7 x8 x30 : Value) (x31 x32 : Int) (H : AHeap) : Prop :=
  pif (decide ((x32 : Int) < x31)) (B10 P N2 N4 x2 x3 x7 x8 x30 x31 x32 H) (B3 P N2 x2 x3 x7 x8 H)
theorem q11 (P : PT) (N2 : NTy k1 Pr) (N4 : NTy k2 Pr) : QB Try.prog T0 72 o11 (cnd 33 (En 72 k2 (B10 P N2 N4)) (En 72 k1 (B3 P N2))) k2 (B11 P N2 N4) := fun _ _ _ _ _ _ _ _ _  => by kernel_rfl
def L4 (P : PT) (N2 : NTy k1 Pr) (x2 : Int) (x3 : Nat) (x7 x8 x30 : Value) (x31 x32 : Int) (H : AHeap) : Prop :=
  ∃ (I : NTy k2 Pr) (μ : NTy k2 (AHeap → Nat)), I x2 x3 x7 x8 x30 x31 x32 H ∧ ∀ y2 y3 y7 y8 y30 y31 y32 G, I y2 y3 y7 y8 y30 y31 y32 G → B11 P N2 (fun z2 z3 z7 z8 z30 z31 z32 G' => I z2 z3 z7 z8 z30 z31 z32 G' ∧ μ z2 z3 z7 z8 z30 z31 z32 G' < μ y2 y3 y7 y8 y30 y31 y32 G) y2 y3 y7 y8 y30 y31 y32 G
theorem l4 (P : PT) (N2 : NTy k1 Pr) : LQ k2 (L4 P N2) (B11 P N2) := fun ⟨_,_,_,_,_,_,_,_⟩ _ ⟨I, μ, h0, hI⟩ => ⟨apT _ I, apT _ μ, h0, fun ⟨_,_,_,_,_,_,_,_⟩ _ h => hI _ _ _ _ _ _ _ _  h⟩
noncomputable def o12 := ob Try.f166 [.r,.r,.r,.l,.r,.l,.l,.r,.l,.l,.l]
def B12 (P : PT) (N2 : NTy k1 Pr) (x2 : Int) (x3 : Nat) (x7 x8 : Value) (H : AHeap) : Prop :=
  ldI .i64 H x3 0 (fun v1 => ld1 H x3 1 (fun v2 => idxK x8 0 1 (fun b3 o4 => ldI .i64 H b3 o4 (fun v5 => AC Try.prog T0 95 [(Value.agg ⟨[(Value.int .i64 v1), v2]⟩), (Value.int .i64 v5)] H (fun v6 H7 => lenK v6 (fun n9 => L4 P N2 x2 x3 x7 x8 v6 (n9 : Int) 0 H7))))))
theorem q12 (P : PT) (N2 : NTy k1 Pr) : QD Try.prog T0 72 o12 [(0, false), (1, false), (2, false), (3, false), (6, false), (4, false), (5, false)] (En 72 k2 (L4 P N2)) k1 (B12 P N2) := fun _ _ _ _ _ _  => by kernel_rfl
noncomputable def o13 := ob Try.f166 [.r,.r,.r,.l,.r,.l,.l,.l,.l]
def B13 (P : PT) (N2 : NTy k1 Pr) (x2 : Int) (x3 : Nat) (x7 x8 : Value) (H : AHeap) : Prop :=
  lenK x8 (fun n1 => pif (decide (((n1 : Int) : Int) > 0)) (B12 P N2 x2 x3 x7 x8 H) (B1 P x7 H))
theorem q13 (P : PT) (N2 : NTy k1 Pr) : QB Try.prog T0 72 o13 (cnd 23 (En 72 k1 (B12 P N2)) (En 72 k0 (B1 P))) k1 (B13 P N2) := fun _ _ _ _ _ _  => by kernel_rfl
def L2 (P : PT) (x2 : Int) (x3 : Nat) (x7 x8 : Value) (H : AHeap) : Prop :=
  ∃ (I : NTy k1 Pr) (μ : NTy k1 (AHeap → Nat)), I x2 x3 x7 x8 H ∧ ∀ y2 y3 y7 y8 G, I y2 y3 y7 y8 G → B13 P (fun z2 z3 z7 z8 G' => I z2 z3 z7 z8 G' ∧ μ z2 z3 z7 z8 G' < μ y2 y3 y7 y8 G) y2 y3 y7 y8 G
theorem l2 (P : PT) : LQ k1 (L2 P) (B13 P) := fun ⟨_,_,_,_,_⟩ _ ⟨I, μ, h0, hI⟩ => ⟨apT _ I, apT _ μ, h0, fun ⟨_,_,_,_,_⟩ _ h => hI _ _ _ _ _  h⟩
abbrev k6 : Sk := [(1,.i .i64),(2,.i .u64),(3,.x),(7,.v)]
noncomputable def o14 := ob Try.f166 [.r,.r,.r,.l,.l]
def B14 (P : PT) (x1 x2 : Int) (x3 : Nat) (x7 : Value) (H : AHeap) : Prop :=
  newK H [(Value.int .i64 x1)] 2 (fun b1 H2 => L2 P x2 x3 x7 (Value.slice (some ⟨b1, 0, none⟩) 1 (1 + 1)) H2)
theorem q14 (P : PT) : QB Try.prog T0 72 o14 (En 72 k1 (L2 P)) k6 (B14 P) := fun _ _ _ _ _ _  => by kernel_rfl
noncomputable def o15 := ob Try.f166 [.r,.r,.l]
def B15 (P : PT) (x1 x2 : Int) (x3 : Nat) (x7 : Value) (H : AHeap) : Prop :=
  idxK x7 x1 1 (fun b1 o2 => stK H b1 o2 [(Value.int .i64 0)] (fun H3 => B14 P x1 x2 x3 x7 H3))
theorem q15 (P : PT) : QB Try.prog T0 72 o15 (En 72 k6 (B14 P)) k6 (B15 P) := fun _ _ _ _ _ _  => by kernel_rfl
abbrev k7 : Sk := [(1,.i .i64),(2,.i .u64),(3,.x)]
noncomputable def o16 := ob Try.f166 [.r,.l]
def B16 (P : PT) (x1 x2 : Int) (x3 : Nat) (H : AHeap) : Prop :=
  newK H [(Value.int .i64 (-1))] 2 (fun b1 H2 => ldI .i64 H2 x3 0 (fun v3 => AC Try.prog T0 189 [(Value.slice (some ⟨b1, 0, none⟩) 1 (1 + 1)), (Value.int .i64 v3)] H2 (fun v4 H5 => B15 P x1 x2 x3 v4 H5)))
theorem q16 (P : PT) : QB Try.prog T0 72 o16 (En 72 k6 (B15 P)) k7 (B16 P) := fun _ _ _ _ _  => by kernel_rfl
abbrev k8 : Sk := [(0,.g [.i,.v]),(1,.i .i64),(2,.i .u64)]
noncomputable def o17 := ob Try.f166 [.l]
def B17 (P : PT) (x0a : Int) (x0b : Value) (x1 x2 : Int) (H : AHeap) : Prop :=
  newK H [(Value.int .i64 x0a), x0b] 31 (fun b1 H2 => B16 P x1 x2 b1 H2)
theorem q17 (P : PT) : QB Try.prog T0 72 o17 (En 72 k7 (B16 P)) k8 (B17 P) := fun _ _ _ _ _ _  => by kernel_rfl
noncomputable def code : Code := (.seq (.region 0 ⟨o17⟩ false) (.seq (.region 1 ⟨o16⟩ false) (.seq (.region 2 ⟨o15⟩ false) (.seq (.seq (.region 3 ⟨o14⟩ false) (.block 0 (.loop (.seq (.seq (.region 4 ⟨o13⟩ false) (.cond (.tmp 23) .skip (.exit 0))) (.seq (.block 1 (.seq (.region 6 ⟨o12⟩ true) (.block 2 (.loop (.seq (.region 7 ⟨o11⟩ false) (.seq (.cond (.tmp 33) .skip (.exit 2)) (.seq (.block 3 (.seq (.region 8 ⟨o10⟩ false) (.seq (.region 9 ⟨o9⟩ true) (.seq (.region 10 ⟨o8⟩ false) (.cond (.tmp 55) (.seq (.region 11 ⟨o7⟩ false) (.region 12 ⟨o6⟩ false)) .skip))))) (.region 13 ⟨o5⟩ false)))))))) (.region 5 ⟨o3⟩ false)))))) (.seq (.region 14 ⟨o1⟩ false) .ret)))))
theorem body : Try.f166.body = some code := by kernel_rfl
theorem main (P : PT) : ∀ env H, (En 72 k8 (B17 P)) env H → AW Try.prog T0 code env H (mkQ (ret P) (fun _ _ _ => False) (ret P)) :=
  (r_seq (rB T0_ok (q17 P)) (r_seq (rB T0_ok (q16 P)) (r_seq (rB T0_ok (q15 P)) (r_seq (r_seq (rB T0_ok (q14 P)) (r_block (rL (l2 P) (fun N2 => (r_seq (r_seq (rB T0_ok (q13 P N2)) (r_cond rfl r_skip (r_exit (fun _ _ h => h)))) (r_seq (r_block (r_seq (rD T0_ok mixed [(0, false), (1, false), (2, false), (3, false), (6, false), (4, false), (5, false)] (by kernel_rfl) (q12 P N2)) (r_block (rL (l4 P N2) (fun N4 => (r_seq (rB T0_ok (q11 P N2 N4)) (r_seq (r_cond rfl r_skip (r_exit (fun _ _ h => h))) (r_seq (r_block (r_seq (rB T0_ok (q10 P N2 N4)) (r_seq (rD T0_ok mixed [(0, false), (1, false), (2, false), (3, false), (4, false), (5, false), (6, false), (7, false), (8, false), (9, false)] (by kernel_rfl) (q9 P N2 N4)) (r_seq (rB T0_ok (q8 P N2 N4)) (r_cond rfl (r_seq (rB T0_ok (q7 P N2 N4)) (rB T0_ok (q6 P N2 N4))) r_skip))))) (rB T0_ok (q5 P N2 N4)))))))))) (rB T0_ok (q3 P N2)))))))) (r_seq (rB T0_ok (q1 P)) r_ret)))))
theorem ac (P : PT) (x0a : Int) (x0b : Value) (x1 x2 : Int) (H : AHeap) (h : B17 P x0a x0b x1 x2 H) : AC Try.prog T0 166 [(Value.agg ⟨[(Value.int .i64 x0a), x0b]⟩), (Value.int .i64 x1), (Value.int .u64 x2)] H P :=
  r_fn T0_ok (c := code) (n := 72) Try.func166 body (by kernel_rfl) (main P) (En_mk (x0a, x0b, x1, x2, ()) (by kernel_rfl) ⟨by kernel_rfl, by kernel_rfl, by kernel_rfl, trivial⟩ h)

end F166
-- slices.IndexFunc[[]loop.example/g01329/impl.set,loop.example/g01329/impl.set]
namespace F167
noncomputable def ret (P : PT) : EP := retE T0 19 Try.f167 P
abbrev k0 : Sk := []
noncomputable def o1 := ob Try.f167 [.r,.r,.l]
def B1 (P : PT) (H : AHeap) : Prop :=
  P (Value.int .i64 (-1)) H
theorem q1 (P : PT) : QB Try.prog T0 19 o1 (ret P) k0 (B1 P) := fun _ _  => by kernel_rfl
abbrev k1 : Sk := [(0,.v),(1,.v),(7,.i .i64),(8,.i .i64)]
noncomputable def o3 := ob Try.f167 [.r,.l,.r,.l,.l,.r,.r,.r]
def B3 (P : PT) (N2 : NTy k1 Pr) (x0 x1 : Value) (x7 x8 : Int) (H : AHeap) : Prop :=
  N2 x0 x1 x7 (IntKind.i64.wrap (x8 + 1)) H
theorem q3 (P : PT) (N2 : NTy k1 Pr) : QB Try.prog T0 19 o3 (En 19 k1 N2) k1 (B3 P N2) := fun _ _ _ _ _ _  => by kernel_rfl
abbrev k2 : Sk := [(5,.i .i64)]
noncomputable def o4 := ob Try.f167 [.r,.l,.r,.l,.l,.r,.r,.l,.l,.r,.r,.l,.l]
def B4 (P : PT) (N2 : NTy k1 Pr) (x5 : Int) (H : AHeap) : Prop :=
  P (Value.int .i64 x5) H
theorem q4 (P : PT) (N2 : NTy k1 Pr) : QB Try.prog T0 19 o4 (ret P) k2 (B4 P N2) := fun _ _ _  => by kernel_rfl
abbrev k3 : Sk := [(0,.v),(1,.v),(5,.i .i64),(7,.i .i64),(8,.i .i64)]
noncomputable def o5 := ob Try.f167 [.r,.l,.r,.l,.l,.r,.r,.l,.l,.r,.l]
def B5 (P : PT) (N2 : NTy k1 Pr) (x0 x1 : Value) (x5 x7 x8 : Int) (H : AHeap) : Prop :=
  idxK x0 x5 1 (fun b1 o2 => ldI .u64 H b1 o2 (fun v3 => callV Try.prog T0 x1 [(Value.int .u64 v3)] H (fun v4 H5 => asB v4 (fun v6 => pif v6 (B4 P N2 x5 H5) (B3 P N2 x0 x1 x7 x8 H5)))))
theorem q5 (P : PT) (N2 : NTy k1 Pr) : QB Try.prog T0 19 o5 (cnd 16 (En 19 k2 (B4 P N2)) (En 19 k1 (B3 P N2))) k3 (B5 P N2) := fun _ _ _ _ _ _ _  => by kernel_rfl
noncomputable def o6 := ob Try.f167 [.r,.l,.r,.l,.l,.r,.r,.l,.l,.l]
def B6 (P : PT) (N2 : NTy k1 Pr) (x0 x1 : Value) (x7 x8 : Int) (H : AHeap) : Prop :=
  B5 P N2 x0 x1 x8 x7 x8 H
theorem q6 (P : PT) (N2 : NTy k1 Pr) : QB Try.prog T0 19 o6 (En 19 k3 (B5 P N2)) k1 (B6 P N2) := fun _ _ _ _ _ _  => by kernel_rfl
noncomputable def o7 := ob Try.f167 [.r,.l,.r,.l,.l,.l]
def B7 (P : PT) (N2 : NTy k1 Pr) (x0 x1 : Value) (x7 x8 : Int) (H : AHeap) : Prop :=
  pif (decide ((x8 : Int) < x7)) (B6 P N2 x0 x1 x7 x8 H) (B1 P H)
theorem q7 (P : PT) (N2 : NTy k1 Pr) : QB Try.prog T0 19 o7 (cnd 9 (En 19 k1 (B6 P N2)) (En 19 k0 (B1 P))) k1 (B7 P N2) := fun _ _ _ _ _ _  => by kernel_rfl
def L2 (P : PT) (x0 x1 : Value) (x7 x8 : Int) (H : AHeap) : Prop :=
  ∃ (I : NTy k1 Pr) (μ : NTy k1 (AHeap → Nat)), I x0 x1 x7 x8 H ∧ ∀ y0 y1 y7 y8 G, I y0 y1 y7 y8 G → B7 P (fun z0 z1 z7 z8 G' => I z0 z1 z7 z8 G' ∧ μ z0 z1 z7 z8 G' < μ y0 y1 y7 y8 G) y0 y1 y7 y8 G
theorem l2 (P : PT) : LQ k1 (L2 P) (B7 P) := fun ⟨_,_,_,_,_⟩ _ ⟨I, μ, h0, hI⟩ => ⟨apT _ I, apT _ μ, h0, fun ⟨_,_,_,_,_⟩ _ h => hI _ _ _ _ _  h⟩
abbrev k4 : Sk := [(0,.v),(1,.v)]
noncomputable def o8 := ob Try.f167 [.r,.l,.l]
def B8 (P : PT) (x0 x1 : Value) (H : AHeap) : Prop :=
  lenK x0 (fun n1 => L2 P x0 x1 (n1 : Int) 0 H)
theorem q8 (P : PT) : QB Try.prog T0 19 o8 (En 19 k1 (L2 P)) k4 (B8 P) := fun _ _ _ _  => by kernel_rfl
noncomputable def o9 := ob Try.f167 [.l]
def B9 (P : PT) (x0 x1 : Value) (H : AHeap) : Prop :=
  B8 P x0 x1 H
theorem q9 (P : PT) : QB Try.prog T0 19 o9 (En 19 k4 (B8 P)) k4 (B9 P) := fun _ _ _ _  => by kernel_rfl
noncomputable def code : Code := (.seq (.region 0 ⟨o9⟩ false) (.seq (.seq (.region 1 ⟨o8⟩ false) (.block 0 (.loop (.seq (.region 2 ⟨o7⟩ false) (.seq (.cond (.tmp 9) .skip (.exit 0)) (.seq (.block 1 (.seq (.region 3 ⟨o6⟩ false) (.seq (.region 4 ⟨o5⟩ false) (.cond (.tmp 16) (.seq (.region 5 ⟨o4⟩ false) .ret) .skip)))) (.region 6 ⟨o3⟩ false))))))) (.seq (.region 7 ⟨o1⟩ false) .ret)))
theorem body : Try.f167.body = some code := by kernel_rfl
theorem main (P : PT) : ∀ env H, (En 19 k4 (B9 P)) env H → AW Try.prog T0 code env H (mkQ (ret P) (fun _ _ _ => False) (ret P)) :=
  (r_seq (rB T0_ok (q9 P)) (r_seq (r_seq (rB T0_ok (q8 P)) (r_block (rL (l2 P) (fun N2 => (r_seq (rB T0_ok (q7 P N2)) (r_seq (r_cond rfl r_skip (r_exit (fun _ _ h => h))) (r_seq (r_block (r_seq (rB T0_ok (q6 P N2)) (r_seq (rB T0_ok (q5 P N2)) (r_cond rfl (r_seq (rB T0_ok (q4 P N2)) r_ret) r_skip)))) (rB T0_ok (q3 P N2))))))))) (r_seq (rB T0_ok (q1 P)) r_ret)))
theorem ac (P : PT) (x0 x1 : Value) (H : AHeap) (h : B9 P x0 x1 H) : AC Try.prog T0 167 [x0, x1] H P :=
  r_fn T0_ok (c := code) (n := 19) Try.func167 body (by kernel_rfl) (main P) (En_mk (x0, x1, ()) (by kernel_rfl) ⟨by kernel_rfl, by kernel_rfl, trivial⟩ h)

end F167
-- slices.pdqsortCmpFunc[loop.example/g01329/impl.set]
namespace F168
noncomputable def ret (P : PT) : EP := retE T0 148 Try.f168 P
abbrev k0 : Sk := [(0,.v),(1,.i .i64),(2,.i .i64),(3,.i .i64),(4,.v),(10,.b),(11,.b)]
abbrev k1 : Sk := [(0,.v),(2,.i .i64),(3,.i .i64),(4,.v),(10,.b),(11,.b),(16,.i .i64)]
noncomputable def o2 := ob Try.f168 [.r,.r,.l,.l,.l,.r,.r,.r,.r,.r,.r,.r,.r,.r,.r,.r,.r,.r,.l,.r,.r]
def B2 (P : PT) (N1 : NTy k0 Pr) (x0 : Value) (x2 x3 : Int) (x4 : Value) (x10 x11 : Bool) (x16 : Int) (H : AHeap) : Prop :=
  N1 x0 (IntKind.i64.wrap (x16 + 1)) x2 x3 x4 x10 x11 H
theorem q2 (P : PT) (N1 : NTy k0 Pr) : QB Try.prog T0 148 o2 (En 148 k0 N1) k1 (B2 P N1) := fun _ _ _ _ _ _ _ _ _  => by kernel_rfl
abbrev k2 : Sk := [(0,.v),(1,.i .i64),(2,.i .i64),(3,.i .i64),(4,.v),(10,.b),(11,.b),(16,.i .i64)]
noncomputable def o3 := ob Try.f168 [.r,.r,.l,.l,.l,.r,.r,.r,.r,.r,.r,.r,.r,.r,.r,.r,.r,.r,.l,.r,.l]
def B3 (P : PT) (N1 : NTy k0 Pr) (x0 : Value) (x1 x2 x3 : Int) (x4 : Value) (x10 x11 : Bool) (x16 : Int) (H : AHeap) : Prop :=
  AC Try.prog T0 168 [x0, (Value.int .i64 x1), (Value.int .i64 x16), (Value.int .i64 x3), x4] H (fun v1 H2 => asTup v1 (fun l3 => B2 P N1 x0 x2 x3 x4 x10 x11 x16 H2))
theorem q3 (P : PT) (N1 : NTy k0 Pr) : QB Try.prog T0 148 o3 (En 148 k1 (B2 P N1)) k2 (B3 P N1) := fun _ _ _ _ _ _ _ _ _ _  => by kernel_rfl
abbrev k3 : Sk := [(0,.v),(1,.i .i64),(2,.i .i64),(3,.i .i64),(4,.v),(11,.b),(16,.i .i64),(18,.i .i64),(20,.i .i64)]
noncomputable def o4 := ob Try.f168 [.r,.r,.l,.l,.l,.r,.r,.r,.r,.r,.r,.r,.r,.r,.r,.r,.r,.r,.l,.l]
def B4 (P : PT) (N1 : NTy k0 Pr) (x0 : Value) (x1 x2 x3 : Int) (x4 : Value) (x11 : Bool) (x16 x18 x20 : Int) (H : AHeap) : Prop :=
  B3 P N1 x0 x1 x2 x3 x4 (decide ((x18 : Int) ≥ x20)) x11 x16 H
theorem q4 (P : PT) (N1 : NTy k0 Pr) : QB Try.prog T0 148 o4 (En 148 k2 (B3 P N1)) k3 (B4 P N1) := fun _ _ _ _ _ _ _ _ _ _ _  => by kernel_rfl
abbrev k4 : Sk := [(0,.v),(1,.i .i64),(3,.i .i64),(4,.v),(10,.b),(11,.b),(16,.i .i64)]
noncomputable def o5 := ob Try.f168 [.r,.r,.l,.l,.l,.r,.r,.r,.r,.r,.r,.r,.r,.r,.r,.r,.r,.r,.r,.r,.r]
def B5 (P : PT) (N1 : NTy k0 Pr) (x0 : Value) (x1 x3 : Int) (x4 : Value) (x10 x11 : Bool) (x16 : Int) (H : AHeap) : Prop :=
  N1 x0 x1 x16 x3 x4 x10 x11 H
theorem q5 (P : PT) (N1 : NTy k0 Pr) : QB Try.prog T0 148 o5 (En 148 k0 N1) k4 (B5 P N1) := fun _ _ _ _ _ _ _ _ _  => by kernel_rfl
noncomputable def o6 := ob Try.f168 [.r,.r,.l,.l,.l,.r,.r,.r,.r,.r,.r,.r,.r,.r,.r,.r,.r,.r,.r,.r,.l]
def B6 (P : PT) (N1 : NTy k0 Pr) (x0 : Value) (x1 x2 x3 : Int) (x4 : Value) (x10 x11 : Bool) (x16 : Int) (H : AHeap) : Prop :=
  AC Try.prog T0 168 [x0, (Value.int .i64 (IntKind.i64.wrap (x16 + 1))), (Value.int .i64 x2), (Value.int .i64 x3), x4] H (fun v1 H2 => asTup v1 (fun l3 => B5 P N1 x0 x1 x3 x4 x10 x11 x16 H2))
theorem q6 (P : PT) (N1 : NTy k0 Pr) : QB Try.prog T0 148 o6 (En 148 k4 (B5 P N1)) k2 (B6 P N1) := fun _ _ _ _ _ _ _ _ _ _  => by kernel_rfl
abbrev k5 : Sk := [(0,.v),(1,.i .i64),(2,.i .i64),(3,.i .i64),(4,.v),(11,.b),(16,.i .i64),(19,.i .i64),(20,.i .i64)]
noncomputable def o7 := ob Try.f168 [.r,.r,.l,.l,.l,.r,.r,.r,.r,.r,.r,.r,.r,.r,.r,.r,.r,.r,.r,.l]
def B7 (P : PT) (N1 : NTy k0 Pr) (x0 : Value) (x1 x2 x3 : Int) (x4 : Value) (x11 : Bool) (x16 x19 x20 : Int) (H : AHeap) : Prop :=
  B6 P N1 x0 x1 x2 x3 x4 (decide ((x19 : Int) ≥ x20)) x11 x16 H
theorem q7 (P : PT) (N1 : NTy k0 Pr) : QB Try.prog T0 148 o7 (En 148 k2 (B6 P N1)) k5 (B7 P N1) := fun _ _ _ _ _ _ _ _ _ _ _  => by kernel_rfl
abbrev k6 : Sk := [(0,.v),(1,.i .i64),(2,.i .i64),(3,.i .i64),(4,.v),(11,.b),(16,.i .i64),(18,.i .i64),(19,.i .i64),(20,.i .i64)]
noncomputable def o8 := ob Try.f168 [.r,.r,.l,.l,.l,.r,.r,.r,.r,.r,.r,.r,.r,.r,.r,.r,.r,.l]
def B8 (P : PT) (N1 : NTy k0 Pr) (x0 : Value) (x1 x2 x3 : Int) (x4 : Value) (x11 : Bool) (x16 x18 x19 x20 : Int) (H : AHeap) : Prop :=
  pif (decide ((x18 : Int) < x19)) (B4 P N1 x0 x1 x2 x3 x4 x11 x16 x18 x20 H) (B7 P N1 x0 x1 x2 x3 x4 x11 x16 x19 x20 H)
theorem q8 (P : PT) (N1 : NTy k0 Pr) : QB Try.prog T0 148 o8 (cnd 125 (En 148 k3 (B4 P N1)) (En 148 k5 (B7 P N1))) k6 (B8 P N1) := fun _ _ _ _ _ _ _ _ _ _ _ _  => by kernel_rfl
abbrev k7 : Sk := [(0,.v),(1,.i .i64),(2,.i .i64),(3,.i .i64),(4,.v),(11,.b),(12,.i .i64),(16,.i .i64),(18,.i .i64),(19,.i .i64)]
noncomputable def o9 := ob Try.f168 [.r,.r,.l,.l,.l,.r,.r,.r,.r,.r,.r,.r,.r,.r,.r,.r,.l]
def B9 (P : PT) (N1 : NTy k0 Pr) (x0 : Value) (x1 x2 x3 : Int) (x4 : Value) (x11 : Bool) (x12 x16 x18 x19 : Int) (H : AHeap) : Prop :=
  B8 P N1 x0 x1 x2 x3 x4 x11 x16 x18 x19 (IntKind.i64.wrap (Int.tdiv x12 8)) H
theorem q9 (P : PT) (N1 : NTy k0 Pr) : QB Try.prog T0 148 o9 (En 148 k6 (B8 P N1)) k7 (B9 P N1) := fun _ _ _ _ _ _ _ _ _ _ _ _  => by kernel_rfl
abbrev k8 : Sk := [(0,.v),(1,.i .i64),(2,.i .i64),(3,.i .i64),(4,.v),(11,.b),(12,.i .i64),(16,.i .i64)]
noncomputable def o10 := ob Try.f168 [.r,.r,.l,.l,.l,.r,.r,.r,.r,.r,.r,.r,.r,.r,.r,.l]
def B10 (P : PT) (N1 : NTy k0 Pr) (x0 : Value) (x1 x2 x3 : Int) (x4 : Value) (x11 : Bool) (x12 x16 : Int) (H : AHeap) : Prop :=
  B9 P N1 x0 x1 x2 x3 x4 x11 x12 x16 (IntKind.i64.wrap (x16 - x1)) (IntKind.i64.wrap (x2 - x16)) H
theorem q10 (P : PT) (N1 : NTy k0 Pr) : QB Try.prog T0 148 o10 (En 148 k7 (B9 P N1)) k8 (B10 P N1) := fun _ _ _ _ _ _ _ _ _ _  => by kernel_rfl
abbrev k9 : Sk := [(0,.v),(1,.i .i64),(2,.i .i64),(3,.i .i64),(4,.v),(12,.i .i64),(16,.i .i64),(17,.b)]
noncomputable def o11 := ob Try.f168 [.r,.r,.l,.l,.l,.r,.r,.r,.r,.r,.r,.r,.r,.r,.l]
def B11 (P : PT) (N1 : NTy k0 Pr) (x0 : Value) (x1 x2 x3 : Int) (x4 : Value) (x12 x16 : Int) (x17 : Bool) (H : AHeap) : Prop :=
  B10 P N1 x0 x1 x2 x3 x4 x17 x12 x16 H
theorem q11 (P : PT) (N1 : NTy k0 Pr) : QB Try.prog T0 148 o11 (En 148 k8 (B10 P N1)) k9 (B11 P N1) := fun _ _ _ _ _ _ _ _ _ _  => by kernel_rfl
abbrev k10 : Sk := [(0,.v),(1,.i .i64),(2,.i .i64),(3,.i .i64),(4,.v),(12,.i .i64),(13,.i .i64)]
noncomputable def o12 := ob Try.f168 [.r,.r,.l,.l,.l,.r,.r,.r,.r,.r,.r,.r,.r,.l]
def B12 (P : PT) (N1 : NTy k0 Pr) (x0 : Value) (x1 x2 x3 : Int) (x4 : Value) (x12 x13 : Int) (H : AHeap) : Prop :=
  AC Try.prog T0 198 [x0, (Value.int .i64 x1), (Value.int .i64 x2), (Value.int .i64 x13), x4] H (fun v1 H2 => tup2 v1 (fun v3 v4 => asI .i64 v3 (fun v5 => asB v4 (fun v6 => B11 P N1 x0 x1 x2 x3 x4 x12 v5 v6 H2))))
theorem q12 (P : PT) (N1 : NTy k0 Pr) : QB Try.prog T0 148 o12 (En 148 k9 (B11 P N1)) k10 (B12 P N1) := fun _ _ _ _ _ _ _ _ _  => by kernel_rfl
abbrev k11 : Sk := [(0,.v),(2,.i .i64),(3,.i .i64),(4,.v),(10,.b),(11,.b),(15,.i .i64)]
noncomputable def o13 := ob Try.f168 [.r,.r,.l,.l,.l,.r,.r,.r,.r,.r,.r,.r,.l,.r,.l,.r,.l]
def B13 (P : PT) (N1 : NTy k0 Pr) (x0 : Value) (x2 x3 : Int) (x4 : Value) (x10 x11 : Bool) (x15 : Int) (H : AHeap) : Prop :=
  N1 x0 x15 x2 x3 x4 x10 x11 H
theorem q13 (P : PT) (N1 : NTy k0 Pr) : QB Try.prog T0 148 o13 (En 148 k0 N1) k11 (B13 P N1) := fun _ _ _ _ _ _ _ _ _  => by kernel_rfl
abbrev k12 : Sk := [(0,.v),(1,.i .i64),(2,.i .i64),(3,.i .i64),(4,.v),(10,.b),(11,.b),(13,.i .i64)]
noncomputable def o14 := ob Try.f168 [.r,.r,.l,.l,.l,.r,.r,.r,.r,.r,.r,.r,.l,.r,.l,.l]
def B14 (P : PT) (N1 : NTy k0 Pr) (x0 : Value) (x1 x2 x3 : Int) (x4 : Value) (x10 x11 : Bool) (x13 : Int) (H : AHeap) : Prop :=
  AC Try.prog T0 197 [x0, (Value.int .i64 x1), (Value.int .i64 x2), (Value.int .i64 x13), x4] H (fun v1 H2 => asI .i64 v1 (fun v3 => B13 P N1 x0 x2 x3 x4 x10 x11 v3 H2))
theorem q14 (P : PT) (N1 : NTy k0 Pr) : QB Try.prog T0 148 o14 (En 148 k11 (B13 P N1)) k12 (B14 P N1) := fun _ _ _ _ _ _ _ _ _ _  => by kernel_rfl
abbrev k13 : Sk := [(0,.v),(1,.i .i64),(2,.i .i64),(3,.i .i64),(4,.v),(10,.b),(11,.b),(12,.i .i64),(13,.i .i64)]
noncomputable def o15 := ob Try.f168 [.r,.r,.l,.l,.l,.r,.r,.r,.r,.r,.r,.r,.l,.l]
def B15 (P : PT) (N1 : NTy k0 Pr) (x0 : Value) (x1 x2 x3 : Int) (x4 : Value) (x10 x11 : Bool) (x12 x13 : Int) (H : AHeap) : Prop :=
  pif (decide ((x1 : Int) > 0)) (idxK x0 (IntKind.i64.wrap (x1 - 1)) 1 (fun b1 o2 => ldI .u64 H b1 o2 (fun v3 => idxK x0 x13 1 (fun b4 o5 => ldI .u64 H b4 o5 (fun v6 => callV Try.prog T0 x4 [(Value.int .u64 v3), (Value.int .u64 v6)] H (fun v7 H8 => asI .i64 v7 (fun v9 => pif (!(decide ((v9 : Int) < 0))) (B14 P N1 x0 x1 x2 x3 x4 x10 x11 x13 H8) (B12 P N1 x0 x1 x2 x3 x4 x12 x13 H8)))))))) (B12 P N1 x0 x1 x2 x3 x4 x12 x13 H)
theorem q15 (P : PT) (N1 : NTy k0 Pr) : QD Try.prog T0 148 o15 [(0, false), (1, false), (2, false), (3, false), (4, false), (5, false), (6, false), (7, false), (8, false), (9, false), (10, false), (11, false), (12, false), (13, false), (14, false), (15, false), (16, false)] (cnd 97 (En 148 k12 (B14 P N1)) (En 148 k10 (B12 P N1))) k13 (B15 P N1) := fun _ _ _ _ _ _ _ _ _ _ _  => by kernel_rfl
noncomputable def o16 := ob Try.f168 [.r,.r,.l,.l,.l,.r,.r,.r,.r,.r,.r,.l,.r,.l,.l]
def B16 (P : PT) (N1 : NTy k0 Pr) (x0 : Value) (x1 x2 x3 : Int) (x4 : Value) (x10 x11 : Bool) (x12 x13 : Int) (H : AHeap) : Prop :=
  AC Try.prog T0 196 [x0, (Value.int .i64 x1), (Value.int .i64 x2), x4] H (fun v1 H2 => asB v1 (fun v3 => pif v3 (P (Value.tuple ⟨[]⟩) H2) (B15 P N1 x0 x1 x2 x3 x4 x10 x11 x12 x13 H2)))
theorem q16 (P : PT) (N1 : NTy k0 Pr) : QB Try.prog T0 148 o16 (cnd 80 (ret P) (En 148 k13 (B15 P N1))) k13 (B16 P N1) := fun _ _ _ _ _ _ _ _ _ _ _  => by kernel_rfl
abbrev k14 : Sk := [(0,.v),(1,.i .i64),(2,.i .i64),(3,.i .i64),(4,.v),(10,.b),(11,.b),(12,.i .i64),(13,.i .i64),(14,.i .i64)]
noncomputable def o17 := ob Try.f168 [.r,.r,.l,.l,.l,.r,.r,.r,.r,.r,.r,.l,.l]
def B17 (P : PT) (N1 : NTy k0 Pr) (x0 : Value) (x1 x2 x3 : Int) (x4 : Value) (x10 x11 : Bool) (x12 x13 x14 : Int) (H : AHeap) : Prop :=
  pif x10 (pif x11 (pif ((x14 : Int) == 1) (B16 P N1 x0 x1 x2 x3 x4 x10 x11 x12 x13 H) (B15 P N1 x0 x1 x2 x3 x4 x10 x11 x12 x13 H)) (B15 P N1 x0 x1 x2 x3 x4 x10 x11 x12 x13 H)) (B15 P N1 x0 x1 x2 x3 x4 x10 x11 x12 x13 H)
theorem q17 (P : PT) (N1 : NTy k0 Pr) : QB Try.prog T0 148 o17 (cnd 75 (En 148 k13 (B16 P N1)) (En 148 k13 (B15 P N1))) k14 (B17 P N1) := fun _ _ _ _ _ _ _ _ _ _ _ _  => by kernel_rfl
noncomputable def o18 := ob Try.f168 [.r,.r,.l,.l,.l,.r,.r,.r,.r,.r,.l,.r,.l,.r,.r]
def B18 (P : PT) (N1 : NTy k0 Pr) (x0 : Value) (x1 x2 x3 : Int) (x4 : Value) (x10 x11 : Bool) (x12 x13 : Int) (H : AHeap) : Prop :=
  B17 P N1 x0 x1 x2 x3 x4 x10 x11 x12 x13 1 H
theorem q18 (P : PT) (N1 : NTy k0 Pr) : QB Try.prog T0 148 o18 (En 148 k14 (B17 P N1)) k13 (B18 P N1) := fun _ _ _ _ _ _ _ _ _ _ _  => by kernel_rfl
noncomputable def o19 := ob Try.f168 [.r,.r,.l,.l,.l,.r,.r,.r,.r,.r,.l,.r,.l,.r,.l]
def B19 (P : PT) (N1 : NTy k0 Pr) (x0 : Value) (x1 x2 x3 : Int) (x4 : Value) (x10 x11 : Bool) (x12 x13 : Int) (H : AHeap) : Prop :=
  B18 P N1 x0 x1 x2 x3 x4 x10 x11 x12 (IntKind.i64.wrap ((IntKind.i64.wrap (x2 - 1)) - (IntKind.i64.wrap (x13 - x1)))) H
theorem q19 (P : PT) (N1 : NTy k0 Pr) : QB Try.prog T0 148 o19 (En 148 k13 (B18 P N1)) k13 (B19 P N1) := fun _ _ _ _ _ _ _ _ _ _ _  => by kernel_rfl
noncomputable def o20 := ob Try.f168 [.r,.r,.l,.l,.l,.r,.r,.r,.r,.r,.l,.r,.l,.l]
def B20 (P : PT) (N1 : NTy k0 Pr) (x0 : Value) (x1 x2 x3 : Int) (x4 : Value) (x10 x11 : Bool) (x12 x13 : Int) (H : AHeap) : Prop :=
  AC Try.prog T0 195 [x0, (Value.int .i64 x1), (Value.int .i64 x2), x4] H (fun v1 H2 => asTup v1 (fun l3 => B19 P N1 x0 x1 x2 x3 x4 x10 x11 x12 x13 H2))
theorem q20 (P : PT) (N1 : NTy k0 Pr) : QB Try.prog T0 148 o20 (En 148 k13 (B19 P N1)) k13 (B20 P N1) := fun _ _ _ _ _ _ _ _ _ _ _  => by kernel_rfl
noncomputable def o21 := ob Try.f168 [.r,.r,.l,.l,.l,.r,.r,.r,.r,.r,.l,.l]
def B21 (P : PT) (N1 : NTy k0 Pr) (x0 : Value) (x1 x2 x3 : Int) (x4 : Value) (x10 x11 : Bool) (x12 x13 x14 : Int) (H : AHeap) : Prop :=
  pif ((x14 : Int) == 2) (B20 P N1 x0 x1 x2 x3 x4 x10 x11 x12 x13 H) (B17 P N1 x0 x1 x2 x3 x4 x10 x11 x12 x13 x14 H)
theorem q21 (P : PT) (N1 : NTy k0 Pr) : QB Try.prog T0 148 o21 (cnd 56 (En 148 k13 (B20 P N1)) (En 148 k14 (B17 P N1))) k14 (B21 P N1) := fun _ _ _ _ _ _ _ _ _ _ _ _  => by kernel_rfl
abbrev k15 : Sk := [(0,.v),(1,.i .i64),(2,.i .i64),(3,.i .i64),(4,.v),(10,.b),(11,.b),(12,.i .i64)]
noncomputable def o22 := ob Try.f168 [.r,.r,.l,.l,.l,.r,.r,.r,.r,.l]
def B22 (P : PT) (N1 : NTy k0 Pr) (x0 : Value) (x1 x2 x3 : Int) (x4 : Value) (x10 x11 : Bool) (x12 : Int) (H : AHeap) : Prop :=
  AC Try.prog T0 194 [x0, (Value.int .i64 x1), (Value.int .i64 x2), x4] H (fun v1 H2 => tup2 v1 (fun v3 v4 => asI .i64 v3 (fun v5 => asI .i64 v4 (fun v6 => B21 P N1 x0 x1 x2 x3 x4 x10 x11 x12 v5 v6 H2))))
theorem q22 (P : PT) (N1 : NTy k0 Pr) : QB Try.prog T0 148 o22 (En 148 k14 (B21 P N1)) k15 (B22 P N1) := fun _ _ _ _ _ _ _ _ _ _  => by kernel_rfl
noncomputable def o23 := ob Try.f168 [.r,.r,.l,.l,.l,.r,.r,.r,.l,.r,.l,.r]
def B23 (P : PT) (N1 : NTy k0 Pr) (x0 : Value) (x1 x2 x3 : Int) (x4 : Value) (x10 x11 : Bool) (x12 : Int) (H : AHeap) : Prop :=
  B22 P N1 x0 x1 x2 (IntKind.i64.wrap (x3 - 1)) x4 x10 x11 x12 H
theorem q23 (P : PT) (N1 : NTy k0 Pr) : QB Try.prog T0 148 o23 (En 148 k15 (B22 P N1)) k15 (B23 P N1) := fun _ _ _ _ _ _ _ _ _ _  => by kernel_rfl
noncomputable def o24 := ob Try.f168 [.r,.r,.l,.l,.l,.r,.r,.r,.l,.r,.l,.l]
def B24 (P : PT) (N1 : NTy k0 Pr) (x0 : Value) (x1 x2 x3 : Int) (x4 : Value) (x10 x11 : Bool) (x12 : Int) (H : AHeap) : Prop :=
  AC Try.prog T0 193 [x0, (Value.int .i64 x1), (Value.int .i64 x2), x4] H (fun v1 H2 => asTup v1 (fun l3 => B23 P N1 x0 x1 x2 x3 x4 x10 x11 x12 H2))
theorem q24 (P : PT) (N1 : NTy k0 Pr) : QB Try.prog T0 148 o24 (En 148 k15 (B23 P N1)) k15 (B24 P N1) := fun _ _ _ _ _ _ _ _ _ _  => by kernel_rfl
noncomputable def o25 := ob Try.f168 [.r,.r,.l,.l,.l,.r,.r,.r,.l,.l]
def B25 (P : PT) (N1 : NTy k0 Pr) (x0 : Value) (x1 x2 x3 : Int) (x4 : Value) (x10 x11 : Bool) (x12 : Int) (H : AHeap) : Prop :=
  pif (!x10) (B24 P N1 x0 x1 x2 x3 x4 x10 x11 x12 H) (B22 P N1 x0 x1 x2 x3 x4 x10 x11 x12 H)
theorem q25 (P : PT) (N1 : NTy k0 Pr) : QB Try.prog T0 148 o25 (cnd 39 (En 148 k15 (B24 P N1)) (En 148 k15 (B22 P N1))) k15 (B25 P N1) := fun _ _ _ _ _ _ _ _ _ _  => by kernel_rfl
abbrev k16 : Sk := [(0,.v),(1,.i .i64),(2,.i .i64),(4,.v)]
noncomputable def o26 := ob Try.f168 [.r,.r,.l,.l,.l,.r,.r,.l,.r,.l,.l]
def B26 (P : PT) (N1 : NTy k0 Pr) (x0 : Value) (x1 x2 : Int) (x4 : Value) (H : AHeap) : Prop :=
  AC Try.prog T0 192 [x0, (Value.int .i64 x1), (Value.int .i64 x2), x4] H (fun v1 H2 => asTup v1 (fun l3 => P (Value.tuple ⟨[]⟩) H2))
theorem q26 (P : PT) (N1 : NTy k0 Pr) : QB Try.prog T0 148 o26 (ret P) k16 (B26 P N1) := fun _ _ _ _ _ _  => by kernel_rfl
noncomputable def o27 := ob Try.f168 [.r,.r,.l,.l,.l,.r,.r,.l,.l]
def B27 (P : PT) (N1 : NTy k0 Pr) (x0 : Value) (x1 x2 x3 : Int) (x4 : Value) (x10 x11 : Bool) (x12 : Int) (H : AHeap) : Prop :=
  pif ((x3 : Int) == 0) (B26 P N1 x0 x1 x2 x4 H) (B25 P N1 x0 x1 x2 x3 x4 x10 x11 x12 H)
theorem q27 (P : PT) (N1 : NTy k0 Pr) : QB Try.prog T0 148 o27 (cnd 32 (En 148 k16 (B26 P N1)) (En 148 k15 (B25 P N1))) k15 (B27 P N1) := fun _ _ _ _ _ _ _ _ _ _  => by kernel_rfl
noncomputable def o28 := ob Try.f168 [.r,.r,.l,.l,.l,.r,.l,.r,.l,.l]
def B28 (P : PT) (N1 : NTy k0 Pr) (x0 : Value) (x1 x2 : Int) (x4 : Value) (H : AHeap) : Prop :=
  AC Try.prog T0 191 [x0, (Value.int .i64 x1), (Value.int .i64 x2), x4] H (fun v1 H2 => asTup v1 (fun l3 => P (Value.tuple ⟨[]⟩) H2))
theorem q28 (P : PT) (N1 : NTy k0 Pr) : QB Try.prog T0 148 o28 (ret P) k16 (B28 P N1) := fun _ _ _ _ _ _  => by kernel_rfl
noncomputable def o29 := ob Try.f168 [.r,.r,.l,.l,.l,.r,.l,.l]
def B29 (P : PT) (N1 : NTy k0 Pr) (x0 : Value) (x1 x2 x3 : Int) (x4 : Value) (x10 x11 : Bool) (x12 : Int) (H : AHeap) : Prop :=
  pif (decide ((x12 : Int) ≤ 12)) (B28 P N1 x0 x1 x2 x4 H) (B27 P N1 x0 x1 x2 x3 x4 x10 x11 x12 H)
theorem q29 (P : PT) (N1 : NTy k0 Pr) : QB Try.prog T0 148 o29 (cnd 25 (En 148 k16 (B28 P N1)) (En 148 k15 (B27 P N1))) k15 (B29 P N1) := fun _ _ _ _ _ _ _ _ _ _  => by kernel_rfl
noncomputable def o30 := ob Try.f168 [.r,.r,.l,.l,.l,.l]
def B30 (P : PT) (N1 : NTy k0 Pr) (x0 : Value) (x1 x2 x3 : Int) (x4 : Value) (x10 x11 : Bool) (H : AHeap) : Prop :=
  B29 P N1 x0 x1 x2 x3 x4 x10 x11 (IntKind.i64.wrap (x2 - x1)) H
theorem q30 (P : PT) (N1 : NTy k0 Pr) : QB Try.prog T0 148 o30 (En 148 k15 (B29 P N1)) k0 (B30 P N1) := fun _ _ _ _ _ _ _ _ _  => by kernel_rfl
def L1 (P : PT) (x0 : Value) (x1 x2 x3 : Int) (x4 : Value) (x10 x11 : Bool) (H : AHeap) : Prop :=
  ∃ (I : NTy k0 Pr) (μ : NTy k0 (AHeap → Nat)), I x0 x1 x2 x3 x4 x10 x11 H ∧ ∀ y0 y1 y2 y3 y4 y10 y11 G, I y0 y1 y2 y3 y4 y10 y11 G → B30 P (fun z0 z1 z2 z3 z4 z10 z11 G' => I z0 z1 z2 z3 z4 z10 z11 G' ∧ μ z0 z1 z2 z3 z4 z10 z11 G' < μ y0 y1 y2 y3 y4 y10 y11 G) y0 y1 y2 y3 y4 y10 y11 G
theorem l1 (P : PT) : LQ k0 (L1 P) (B30 P) := fun ⟨_,_,_,_,_,_,_,_⟩ _ ⟨I, μ, h0, hI⟩ => ⟨apT _ I, apT _ μ, h0, fun ⟨_,_,_,_,_,_,_,_⟩ _ h => hI _ _ _ _ _ _ _ _  h⟩
abbrev k17 : Sk := [(0,.v),(1,.i .i64),(2,.i .i64),(3,.i .i64),(4,.v),(10,.b)]
noncomputable def o31 := ob Try.f168 [.r,.l]
def B31 (P : PT) (x0 : Value) (x1 x2 x3 : Int) (x4 : Value) (x10 : Bool) (H : AHeap) : Prop :=
  L1 P x0 x1 x2 x3 x4 x10 true H
theorem q31 (P : PT) : QB Try.prog T0 148 o31 (En 148 k0 (L1 P)) k17 (B31 P) := fun _ _ _ _ _ _ _ _  => by kernel_rfl
abbrev k18 : Sk := [(0,.v),(1,.i .i64),(2,.i .i64),(3,.i .i64),(4,.v)]
noncomputable def o32 := ob Try.f168 [.l]
def B32 (P : PT) (x0 : Value) (x1 x2 x3 : Int) (x4 : Value) (H : AHeap) : Prop :=
  B31 P x0 x1 x2 x3 x4 true H
theorem q32 (P : PT) : QB Try.prog T0 148 o32 (En 148 k17 (B31 P)) k18 (B32 P) := fun _ _ _ _ _ _ _  => by kernel_rfl
noncomputable def code : Code := (.seq (.region 0 ⟨o32⟩ false) (.seq (.region 1 ⟨o31⟩ false) (.block 0 (.loop (.block 1 (.seq (.region 2 ⟨o30⟩ false) (.seq (.seq (.region 3 ⟨o29⟩ false) (.cond (.tmp 25) (.seq (.region 4 ⟨o28⟩ false) .ret) .skip)) (.seq (.seq (.region 5 ⟨o27⟩ false) (.cond (.tmp 32) (.seq (.region 6 ⟨o26⟩ false) .ret) .skip)) (.seq (.seq (.region 7 ⟨o25⟩ false) (.cond (.tmp 39) (.seq (.region 8 ⟨o24⟩ false) (.region 9 ⟨o23⟩ false)) .skip)) (.seq (.region 10 ⟨o22⟩ false) (.seq (.seq (.region 11 ⟨o21⟩ false) (.cond (.tmp 56) (.seq (.region 12 ⟨o20⟩ false) (.seq (.region 13 ⟨o19⟩ false) (.region 14 ⟨o18⟩ false))) .skip)) (.seq (.seq (.region 15 ⟨o17⟩ false) (.cond (.tmp 75) (.seq (.region 16 ⟨o16⟩ false) (.cond (.tmp 80) .ret .skip)) .skip)) (.seq (.seq (.region 17 ⟨o15⟩ true) (.cond (.tmp 97) (.seq (.region 18 ⟨o14⟩ false) (.seq (.region 19 ⟨o13⟩ false) (.exit 1))) .skip)) (.seq (.region 20 ⟨o12⟩ false) (.seq (.region 21 ⟨o11⟩ false) (.seq (.region 22 ⟨o10⟩ false) (.seq (.region 23 ⟨o9⟩ false) (.seq (.region 24 ⟨o8⟩ false) (.cond (.tmp 125) (.seq (.region 25 ⟨o4⟩ false) (.seq (.region 26 ⟨o3⟩ false) (.region 27 ⟨o2⟩ false))) (.seq (.region 28 ⟨o7⟩ false) (.seq (.region 29 ⟨o6⟩ false) (.region 30 ⟨o5⟩ false))))))))))))))))))))))
theorem body : Try.f168.body = some code := by kernel_rfl
theorem main (P : PT) : ∀ env H, (En 148 k18 (B32 P)) env H → AW Try.prog T0 code env H (mkQ (ret P) (fun _ _ _ => False) (ret P)) :=
  (r_seq (rB T0_ok (q32 P)) (r_seq (rB T0_ok (q31 P)) (r_block (rL (l1 P) (fun N1 => (r_block (r_seq (rB T0_ok (q30 P N1)) (r_seq (r_seq (rB T0_ok (q29 P N1)) (r_cond rfl (r_seq (rB T0_ok (q28 P N1)) r_ret) r_skip)) (r_seq (r_seq (rB T0_ok (q27 P N1)) (r_cond rfl (r_seq (rB T0_ok (q26 P N1)) r_ret) r_skip)) (r_seq (r_seq (rB T0_ok (q25 P N1)) (r_cond rfl (r_seq (rB T0_ok (q24 P N1)) (rB T0_ok (q23 P N1))) r_skip)) (r_seq (rB T0_ok (q22 P N1)) (r_seq (r_seq (rB T0_ok (q21 P N1)) (r_cond rfl (r_seq (rB T0_ok (q20 P N1)) (r_seq (rB T0_ok (q19 P N1)) (rB T0_ok (q18 P N1)))) r_skip)) (r_seq (r_seq (rB T0_ok (q17 P N1)) (r_cond rfl (r_seq (rB T0_ok (q16 P N1)) (r_cond rfl r_ret r_skip)) r_skip)) (r_seq (r_seq (rD T0_ok mixed [(0, false), (1, false), (2, false), (3, false), (4, false), (5, false), (6, false), (7, false), (8, false), (9, false), (10, false), (11, false), (12, false), (13, false), (14, false), (15, false), (16, false)] (by kernel_rfl) (q15 P N1)) (r_cond rfl (r_seq (rB T0_ok (q14 P N1)) (r_seq (rB T0_ok (q13 P N1)) (r_exit (fun _ _ h => h)))) r_skip)) (r_seq (rB T0_ok (q12 P N1)) (r_seq (rB T0_ok (q11 P N1)) (r_seq (rB T0_ok (q10 P N1)) (r_seq (rB T0_ok (q9 P N1)) (r_seq (rB T0_ok (q8 P N1)) (r_cond rfl (r_seq (rB T0_ok (q4 P N1)) (r_seq (rB T0_ok (q3 P N1)) (rB T0_ok (q2 P N1)))) (r_seq (rB T0_ok (q7 P N1)) (r_seq (rB T0_ok (q6 P N1)) (rB T0_ok (q5 P N1))))))))))))))))))))))))
theorem ac (P : PT) (x0 : Value) (x1 x2 x3 : Int) (x4 : Value) (H : AHeap) (h : B32 P x0 x1 x2 x3 x4 H) : AC Try.prog T0 168 [x0, (Value.int .i64 x1), (Value.int .i64 x2), (Value.int .i64 x3), x4] H P :=
  r_fn T0_ok (c := code) (n := 148) Try.func168 body (by kernel_rfl) (main P) (En_mk (x0, x1, x2, x3, x4, ()) (by kernel_rfl) ⟨by kernel_rfl, by kernel_rfl, by kernel_rfl, by kernel_rfl, by kernel_rfl, trivial⟩ h)

end F168
-- cmp.Or[int]
namespace F169
noncomputable def ret (P : PT) : EP := retE T0 18 Try.f169 P
abbrev k0 : Sk := [(3,.i .i64)]
noncomputable def o1 := ob Try.f169 [.r,.r,.r,.l]
def B1 (P : PT) (x3 : Int) (H : AHeap) : Prop :=
  P (Value.int .i64 x3) H
theorem q1 (P : PT) : QB Try.prog T0 18 o1 (ret P) k0 (B1 P) := fun _ _ _  => by kernel_rfl
abbrev k1 : Sk := [(3,.i .i64),(6,.v),(7,.i .i64),(8,.i .i64)]
noncomputable def o3 := ob Try.f169 [.r,.r,.l,.r,.l,.l,.r,.r,.r]
def B3 (P : PT) (N2 : NTy k1 Pr) (x3 : Int) (x6 : Value) (x7 x8 : Int) (H : AHeap) : Prop :=
  N2 x3 x6 x7 (IntKind.i64.wrap (x8 + 1)) H
theorem q3 (P : PT) (N2 : NTy k1 Pr) : QB Try.prog T0 18 o3 (En 18 k1 N2) k1 (B3 P N2) := fun _ _ _ _ _ _  => by kernel_rfl
abbrev k2 : Sk := [(5,.i .i64)]
noncomputable def o4 := ob Try.f169 [.r,.r,.l,.r,.l,.l,.r,.r,.l,.l,.r,.r,.l,.l]
def B4 (P : PT) (N2 : NTy k1 Pr) (x5 : Int) (H : AHeap) : Prop :=
  P (Value.int .i64 x5) H
theorem q4 (P : PT) (N2 : NTy k1 Pr) : QB Try.prog T0 18 o4 (ret P) k2 (B4 P N2) := fun _ _ _  => by kernel_rfl
abbrev k3 : Sk := [(3,.i .i64),(5,.i .i64),(6,.v),(7,.i .i64),(8,.i .i64)]
noncomputable def o5 := ob Try.f169 [.r,.r,.l,.r,.l,.l,.r,.r,.l,.l,.r,.l]
def B5 (P : PT) (N2 : NTy k1 Pr) (x3 x5 : Int) (x6 : Value) (x7 x8 : Int) (H : AHeap) : Prop :=
  pif ((x5 : Int) != x3) (B4 P N2 x5 H) (B3 P N2 x3 x6 x7 x8 H)
theorem q5 (P : PT) (N2 : NTy k1 Pr) : QB Try.prog T0 18 o5 (cnd 14 (En 18 k2 (B4 P N2)) (En 18 k1 (B3 P N2))) k3 (B5 P N2) := fun _ _ _ _ _ _ _  => by kernel_rfl
noncomputable def o6 := ob Try.f169 [.r,.r,.l,.r,.l,.l,.r,.r,.l,.l,.l]
def B6 (P : PT) (N2 : NTy k1 Pr) (x3 : Int) (x6 : Value) (x7 x8 : Int) (H : AHeap) : Prop :=
  idxK x6 x8 1 (fun b1 o2 => ldI .i64 H b1 o2 (fun v3 => B5 P N2 x3 v3 x6 x7 x8 H))
theorem q6 (P : PT) (N2 : NTy k1 Pr) : QB Try.prog T0 18 o6 (En 18 k3 (B5 P N2)) k1 (B6 P N2) := fun _ _ _ _ _ _  => by kernel_rfl
noncomputable def o7 := ob Try.f169 [.r,.r,.l,.r,.l,.l,.l]
def B7 (P : PT) (N2 : NTy k1 Pr) (x3 : Int) (x6 : Value) (x7 x8 : Int) (H : AHeap) : Prop :=
  pif (decide ((x8 : Int) < x7)) (B6 P N2 x3 x6 x7 x8 H) (B1 P x3 H)
theorem q7 (P : PT) (N2 : NTy k1 Pr) : QB Try.prog T0 18 o7 (cnd 9 (En 18 k1 (B6 P N2)) (En 18 k0 (B1 P))) k1 (B7 P N2) := fun _ _ _ _ _ _  => by kernel_rfl
def L2 (P : PT) (x3 : Int) (x6 : Value) (x7 x8 : Int) (H : AHeap) : Prop :=
  ∃ (I : NTy k1 Pr) (μ : NTy k1 (AHeap → Nat)), I x3 x6 x7 x8 H ∧ ∀ y3 y6 y7 y8 G, I y3 y6 y7 y8 G → B7 P (fun z3 z6 z7 z8 G' => I z3 z6 z7 z8 G' ∧ μ z3 z6 z7 z8 G' < μ y3 y6 y7 y8 G) y3 y6 y7 y8 G
theorem l2 (P : PT) : LQ k1 (L2 P) (B7 P) := fun ⟨_,_,_,_,_⟩ _ ⟨I, μ, h0, hI⟩ => ⟨apT _ I, apT _ μ, h0, fun ⟨_,_,_,_,_⟩ _ h => hI _ _ _ _ _  h⟩
abbrev k4 : Sk := [(0,.v),(3,.i .i64)]
noncomputable def o8 := ob Try.f169 [.r,.r,.l,.l]
def B8 (P : PT) (x0 : Value) (x3 : Int) (H : AHeap) : Prop :=
  lenK x0 (fun n1 => L2 P x3 x0 (n1 : Int) 0 H)
theorem q8 (P : PT) : QB Try.prog T0 18 o8 (En 18 k1 (L2 P)) k4 (B8 P) := fun _ _ _ _  => by kernel_rfl
abbrev k5 : Sk := [(0,.v)]
noncomputable def o9 := ob Try.f169 [.r,.l]
def B9 (P : PT) (x0 : Value) (H : AHeap) : Prop :=
  B8 P x0 0 H
theorem q9 (P : PT) : QB Try.prog T0 18 o9 (En 18 k4 (B8 P)) k5 (B9 P) := fun _ _ _  => by kernel_rfl
noncomputable def o10 := ob Try.f169 [.l]
def B10 (P : PT) (x0 : Value) (H : AHeap) : Prop :=
  B9 P x0 H
theorem q10 (P : PT) : QB Try.prog T0 18 o10 (En 18 k5 (B9 P)) k5 (B10 P) := fun _ _ _  => by kernel_rfl
noncomputable def code : Code := (.seq (.region 0 ⟨o10⟩ false) (.seq (.region 1 ⟨o9⟩ false) (.seq (.seq (.region 2 ⟨o8⟩ false) (.block 0 (.loop (.seq (.region 3 ⟨o7⟩ false) (.seq (.cond (.tmp 9) .skip (.exit 0)) (.seq (.block 1 (.seq (.region 4 ⟨o6⟩ false) (.seq (.region 5 ⟨o5⟩ false) (.cond (.tmp 14) (.seq (.region 6 ⟨o4⟩ false) .ret) .skip)))) (.region 7 ⟨o3⟩ false))))))) (.seq (.region 8 ⟨o1⟩ false) .ret))))
theorem body : Try.f169.body = some code := by kernel_rfl
theorem main (P : PT) : ∀ env H, (En 18 k5 (B10 P)) env H → AW Try.prog T0 code env H (mkQ (ret P) (fun _ _ _ => False) (ret P)) :=
  (r_seq (rB T0_ok (q10 P)) (r_seq (rB T0_ok (q9 P)) (r_seq (r_seq (rB T0_ok (q8 P)) (r_block (rL (l2 P) (fun N2 => (r_seq (rB T0_ok (q7 P N2)) (r_seq (r_cond rfl r_skip (r_exit (fun _ _ h => h))) (r_seq (r_block (r_seq (rB T0_ok (q6 P N2)) (r_seq (rB T0_ok (q5 P N2)) (r_cond rfl (r_seq (rB T0_ok (q4 P N2)) r_ret) r_skip)))) (rB T0_ok (q3 P N2))))))))) (r_seq (rB T0_ok (q1 P)) r_ret))))
theorem ac (P : PT) (x0 : Value) (H : AHeap) (h : B10 P x0 H) : AC Try.prog T0 169 [x0] H P :=
  r_fn T0_ok (c := code) (n := 18) Try.func169 body (by kernel_rfl) (main P) (En_mk (x0, ()) (by kernel_rfl) ⟨by kernel_rfl, trivial⟩ h)

end F169
-- cmp.Compare[int64]
namespace F170
noncomputable def ret (P : PT) : EP := retE T0 20 Try.f170 P
abbrev k0 : Sk := []
noncomputable def o1 := ob Try.f170 [.r,.r,.r,.r,.r,.r,.r,.l]
def B1 (P : PT) (H : AHeap) : Prop :=
  P (Value.int .i64 0) H
theorem q1 (P : PT) : QB Try.prog T0 20 o1 (ret P) k0 (B1 P) := fun _ _  => by kernel_rfl
noncomputable def o2 := ob Try.f170 [.r,.r,.r,.r,.r,.r,.l,.r,.l,.l]
def B2 (P : PT) (H : AHeap) : Prop :=
  P (Value.int .i64 1) H
theorem q2 (P : PT) : QB Try.prog T0 20 o2 (ret P) k0 (B2 P) := fun _ _  => by kernel_rfl
abbrev k1 : Sk := [(0,.i .i64),(1,.i .i64)]
noncomputable def o3 := ob Try.f170 [.r,.r,.r,.r,.r,.r,.l,.l]
def B3 (P : PT) (x0 x1 : Int) (H : AHeap) : Prop :=
  pif (decide ((x0 : Int) > x1)) (B2 P H) (B1 P H)
theorem q3 (P : PT) : QB Try.prog T0 20 o3 (cnd 19 (En 20 k0 (B2 P)) (En 20 k0 (B1 P))) k1 (B3 P) := fun _ _ _ _  => by kernel_rfl
noncomputable def o4 := ob Try.f170 [.r,.r,.r,.r,.r,.l,.r,.l,.l]
def B4 (P : PT) (H : AHeap) : Prop :=
  P (Value.int .i64 (-1)) H
theorem q4 (P : PT) : QB Try.prog T0 20 o4 (ret P) k0 (B4 P) := fun _ _  => by kernel_rfl
noncomputable def o5 := ob Try.f170 [.r,.r,.r,.r,.r,.l,.l]
def B5 (P : PT) (x0 x1 : Int) (H : AHeap) : Prop :=
  pif (decide ((x0 : Int) < x1)) (B4 P H) (B3 P x0 x1 H)
theorem q5 (P : PT) : QB Try.prog T0 20 o5 (cnd 16 (En 20 k0 (B4 P)) (En 20 k1 (B3 P))) k1 (B5 P) := fun _ _ _ _  => by kernel_rfl
noncomputable def o6 := ob Try.f170 [.r,.r,.r,.r,.l,.r,.l,.l]
def B6 (P : PT) (H : AHeap) : Prop :=
  P (Value.int .i64 1) H
theorem q6 (P : PT) : QB Try.prog T0 20 o6 (ret P) k0 (B6 P) := fun _ _  => by kernel_rfl
abbrev k2 : Sk := [(0,.i .i64),(1,.i .i64),(6,.b)]
noncomputable def o7 := ob Try.f170 [.r,.r,.r,.r,.l,.l]
def B7 (P : PT) (x0 x1 : Int) (x6 : Bool) (H : AHeap) : Prop :=
  pif x6 (B6 P H) (B5 P x0 x1 H)
theorem q7 (P : PT) : QB Try.prog T0 20 o7 (cnd 13 (En 20 k0 (B6 P)) (En 20 k1 (B5 P))) k2 (B7 P) := fun _ _ _ _ _  => by kernel_rfl
noncomputable def o8 := ob Try.f170 [.r,.r,.r,.l,.r,.l,.r,.l]
def B8 (P : PT) (H : AHeap) : Prop :=
  P (Value.int .i64 (-1)) H
theorem q8 (P : PT) : QB Try.prog T0 20 o8 (ret P) k0 (B8 P) := fun _ _  => by kernel_rfl
noncomputable def o9 := ob Try.f170 [.r,.r,.r,.l,.r,.l,.l,.r,.l,.l]
def B9 (P : PT) (H : AHeap) : Prop :=
  P (Value.int .i64 0) H
theorem q9 (P : PT) : QB Try.prog T0 20 o9 (ret P) k0 (B9 P) := fun _ _  => by kernel_rfl
abbrev k3 : Sk := [(6,.b)]
noncomputable def o10 := ob Try.f170 [.r,.r,.r,.l,.r,.l,.l,.l]
def B10 (P : PT) (x6 : Bool) (H : AHeap) : Prop :=
  pif x6 (B9 P H) (B8 P H)
theorem q10 (P : PT) : QB Try.prog T0 20 o10 (cnd 12 (En 20 k0 (B9 P)) (En 20 k0 (B8 P))) k3 (B10 P) := fun _ _ _  => by kernel_rfl
abbrev k4 : Sk := [(0,.i .i64),(1,.i .i64),(5,.b),(6,.b)]
noncomputable def o11 := ob Try.f170 [.r,.r,.r,.l,.l]
def B11 (P : PT) (x0 x1 : Int) (x5 x6 : Bool) (H : AHeap) : Prop :=
  pif x5 (B10 P x6 H) (B7 P x0 x1 x6 H)
theorem q11 (P : PT) : QB Try.prog T0 20 o11 (cnd 11 (En 20 k3 (B10 P)) (En 20 k2 (B7 P))) k4 (B11 P) := fun _ _ _ _ _ _  => by kernel_rfl
abbrev k5 : Sk := [(0,.i .i64),(1,.i .i64),(5,.b)]
noncomputable def o12 := ob Try.f170 [.r,.r,.l]
def B12 (P : PT) (x0 x1 : Int) (x5 : Bool) (H : AHeap) : Prop :=
  AC Try.prog T0 188 [(Value.int .i64 x1)] H (fun v1 H2 => asB v1 (fun v3 => B11 P x0 x1 x5 v3 H2))
theorem q12 (P : PT) : QB Try.prog T0 20 o12 (En 20 k4 (B11 P)) k5 (B12 P) := fun _ _ _ _ _  => by kernel_rfl
noncomputable def o13 := ob Try.f170 [.r,.l]
def B13 (P : PT) (x0 x1 : Int) (H : AHeap) : Prop :=
  AC Try.prog T0 188 [(Value.int .i64 x0)] H (fun v1 H2 => asB v1 (fun v3 => B12 P x0 x1 v3 H2))
theorem q13 (P : PT) : QB Try.prog T0 20 o13 (En 20 k5 (B12 P)) k1 (B13 P) := fun _ _ _ _  => by kernel_rfl
noncomputable def o14 := ob Try.f170 [.l]
def B14 (P : PT) (x0 x1 : Int) (H : AHeap) : Prop :=
  B13 P x0 x1 H
theorem q14 (P : PT) : QB Try.prog T0 20 o14 (En 20 k1 (B13 P)) k1 (B14 P) := fun _ _ _ _  => by kernel_rfl
noncomputable def code : Code := (.seq (.region 0 ⟨o14⟩ false) (.seq (.region 1 ⟨o13⟩ false) (.seq (.region 2 ⟨o12⟩ false) (.seq (.seq (.region 3 ⟨o11⟩ false) (.cond (.tmp 11) (.seq (.seq (.region 4 ⟨o10⟩ false) (.cond (.tmp 12) (.seq (.region 5 ⟨o9⟩ false) .ret) .skip)) (.seq (.region 6 ⟨o8⟩ false) .ret)) .skip)) (.seq (.seq (.region 7 ⟨o7⟩ false) (.cond (.tmp 13) (.seq (.region 8 ⟨o6⟩ false) .ret) .skip)) (.seq (.seq (.region 9 ⟨o5⟩ false) (.cond (.tmp 16) (.seq (.region 10 ⟨o4⟩ false) .ret) .skip)) (.seq (.seq (.region 11 ⟨o3⟩ false) (.cond (.tmp 19) (.seq (.region 12 ⟨o2⟩ false) .ret) .skip)) (.seq (.region 13 ⟨o1⟩ false) .ret))))))))
theorem body : Try.f170.body = some code := by kernel_rfl
theorem main (P : PT) : ∀ env H, (En 20 k1 (B14 P)) env H → AW Try.prog T0 code env H (mkQ (ret P) (fun _ _ _ => False) (ret P)) :=
  (r_seq (rB T0_ok (q14 P)) (r_seq (rB T0_ok (q13 P)) (r_seq (rB T0_ok (q12 P)) (r_seq (r_seq (rB T0_ok (q11 P)) (r_cond rfl (r_seq (r_seq (rB T0_ok (q10 P)) (r_cond rfl (r_seq (rB T0_ok (q9 P)) r_ret) r_skip)) (r_seq (rB T0_ok (q8 P)) r_ret)) r_skip)) (r_seq (r_seq (rB T0_ok (q7 P)) (r_cond rfl (r_seq (rB T0_ok (q6 P)) r_ret) r_skip)) (r_seq (r_seq (rB T0_ok (q5 P)) (r_cond rfl (r_seq (rB T0_ok (q4 P)) r_ret) r_skip)) (r_seq (r_seq (rB T0_ok (q3 P)) (r_cond rfl (r_seq (rB T0_ok (q2 P)) r_ret) r_skip)) (r_seq (rB T0_ok (q1 P)) r_ret))))))))
theorem ac (P : PT) (x0 x1 : Int) (H : AHeap) (h : B14 P x0 x1 H) : AC Try.prog T0 170 [(Value.int .i64 x0), (Value.int .i64 x1)] H P :=
  r_fn T0_ok (c := code) (n := 20) Try.func170 body (by kernel_rfl) (main P) (En_mk (x0, x1, ()) (by kernel_rfl) ⟨by kernel_rfl, by kernel_rfl, trivial⟩ h)

end F170
-- slices.Compare[[]int64,int64]
namespace F171
noncomputable def ret (P : PT) : EP := retE T0 36 Try.f171 P
abbrev k0 : Sk := []
noncomputable def o1 := ob Try.f171 [.r,.r,.r,.l]
def B1 (P : PT) (H : AHeap) : Prop :=
  P (Value.int .i64 0) H
theorem q1 (P : PT) : QB Try.prog T0 36 o1 (ret P) k0 (B1 P) := fun _ _  => by kernel_rfl
noncomputable def o2 := ob Try.f171 [.r,.r,.l,.r,.l,.l]
def B2 (P : PT) (H : AHeap) : Prop :=
  P (Value.int .i64 (-1)) H
theorem q2 (P : PT) : QB Try.prog T0 36 o2 (ret P) k0 (B2 P) := fun _ _  => by kernel_rfl
abbrev k1 : Sk := [(0,.v),(1,.v)]
noncomputable def o3 := ob Try.f171 [.r,.r,.l,.l]
def B3 (P : PT) (x0 x1 : Value) (H : AHeap) : Prop :=
  lenK x0 (fun n1 => lenK x1 (fun n2 => pif (decide (((n1 : Int) : Int) < (n2 : Int))) (B2 P H) (B1 P H)))
theorem q3 (P : PT) : QB Try.prog T0 36 o3 (cnd 35 (En 36 k0 (B2 P)) (En 36 k0 (B1 P))) k1 (B3 P) := fun _ _ _ _  => by kernel_rfl
abbrev k2 : Sk := [(0,.v),(1,.v),(9,.v),(10,.i .i64),(11,.i .i64)]
noncomputable def o5 := ob Try.f171 [.r,.l,.r,.l,.l,.r,.r,.r]
def B5 (P : PT) (N4 : NTy k2 Pr) (x0 x1 x9 : Value) (x10 x11 : Int) (H : AHeap) : Prop :=
  N4 x0 x1 x9 x10 (IntKind.i64.wrap (x11 + 1)) H
theorem q5 (P : PT) (N4 : NTy k2 Pr) : QB Try.prog T0 36 o5 (En 36 k2 N4) k2 (B5 P N4) := fun _ _ _ _ _ _ _  => by kernel_rfl
abbrev k3 : Sk := [(8,.i .i64)]
noncomputable def o6 := ob Try.f171 [.r,.l,.r,.l,.l,.r,.r,.l,.l,.r,.r,.r,.r,.r,.l,.l]
def B6 (P : PT) (N4 : NTy k2 Pr) (x8 : Int) (H : AHeap) : Prop :=
  P (Value.int .i64 x8) H
theorem q6 (P : PT) (N4 : NTy k2 Pr) : QB Try.prog T0 36 o6 (ret P) k3 (B6 P N4) := fun _ _ _  => by kernel_rfl
abbrev k4 : Sk := [(0,.v),(1,.v),(8,.i .i64),(9,.v),(10,.i .i64),(11,.i .i64)]
noncomputable def o7 := ob Try.f171 [.r,.l,.r,.l,.l,.r,.r,.l,.l,.r,.r,.r,.r,.l]
def B7 (P : PT) (N4 : NTy k2 Pr) (x0 x1 : Value) (x8 : Int) (x9 : Value) (x10 x11 : Int) (H : AHeap) : Prop :=
  pif ((x8 : Int) != 0) (B6 P N4 x8 H) (B5 P N4 x0 x1 x9 x10 x11 H)
theorem q7 (P : PT) (N4 : NTy k2 Pr) : QB Try.prog T0 36 o7 (cnd 28 (En 36 k3 (B6 P N4)) (En 36 k2 (B5 P N4))) k4 (B7 P N4) := fun _ _ _ _ _ _ _ _  => by kernel_rfl
abbrev k5 : Sk := [(0,.v),(1,.v),(6,.i .i64),(7,.i .i64),(9,.v),(10,.i .i64),(11,.i .i64)]
noncomputable def o8 := ob Try.f171 [.r,.l,.r,.l,.l,.r,.r,.l,.l,.r,.r,.r,.l]
def B8 (P : PT) (N4 : NTy k2 Pr) (x0 x1 : Value) (x6 x7 : Int) (x9 : Value) (x10 x11 : Int) (H : AHeap) : Prop :=
  AC Try.prog T0 170 [(Value.int .i64 x6), (Value.int .i64 x7)] H (fun v1 H2 => asI .i64 v1 (fun v3 => B7 P N4 x0 x1 v3 x9 x10 x11 H2))
theorem q8 (P : PT) (N4 : NTy k2 Pr) : QB Try.prog T0 36 o8 (En 36 k4 (B7 P N4)) k5 (B8 P N4) := fun _ _ _ _ _ _ _ _ _  => by kernel_rfl
abbrev k6 : Sk := [(0,.v),(1,.v),(5,.i .i64),(6,.i .i64),(9,.v),(10,.i .i64),(11,.i .i64)]
noncomputable def o9 := ob Try.f171 [.r,.l,.r,.l,.l,.r,.r,.l,.l,.r,.r,.l]
def B9 (P : PT) (N4 : NTy k2 Pr) (x0 x1 : Value) (x5 x6 : Int) (x9 : Value) (x10 x11 : Int) (H : AHeap) : Prop :=
  idxK x1 x5 1 (fun b1 o2 => ldI .i64 H b1 o2 (fun v3 => B8 P N4 x0 x1 x6 v3 x9 x10 x11 H))
theorem q9 (P : PT) (N4 : NTy k2 Pr) : QB Try.prog T0 36 o9 (En 36 k5 (B8 P N4)) k6 (B9 P N4) := fun _ _ _ _ _ _ _ _ _  => by kernel_rfl
noncomputable def o10 := ob Try.f171 [.r,.l,.r,.l,.l,.r,.r,.l,.l,.r,.l,.r,.l,.l]
def B10 (P : PT) (N4 : NTy k2 Pr) (H : AHeap) : Prop :=
  P (Value.int .i64 1) H
theorem q10 (P : PT) (N4 : NTy k2 Pr) : QB Try.prog T0 36 o10 (ret P) k0 (B10 P N4) := fun _ _  => by kernel_rfl
noncomputable def o11 := ob Try.f171 [.r,.l,.r,.l,.l,.r,.r,.l,.l,.r,.l,.l]
def B11 (P : PT) (N4 : NTy k2 Pr) (x0 x1 : Value) (x5 x6 : Int) (x9 : Value) (x10 x11 : Int) (H : AHeap) : Prop :=
  lenK x1 (fun n1 => pif (decide ((x5 : Int) ≥ (n1 : Int))) (B10 P N4 H) (B9 P N4 x0 x1 x5 x6 x9 x10 x11 H))
theorem q11 (P : PT) (N4 : NTy k2 Pr) : QB Try.prog T0 36 o11 (cnd 19 (En 36 k0 (B10 P N4)) (En 36 k6 (B9 P N4))) k6 (B11 P N4) := fun _ _ _ _ _ _ _ _ _  => by kernel_rfl
noncomputable def o12 := ob Try.f171 [.r,.l,.r,.l,.l,.r,.r,.l,.l,.l]
def B12 (P : PT) (N4 : NTy k2 Pr) (x0 x1 x9 : Value) (x10 x11 : Int) (H : AHeap) : Prop :=
  idxK x9 x11 1 (fun b1 o2 => ldI .i64 H b1 o2 (fun v3 => B11 P N4 x0 x1 x11 v3 x9 x10 x11 H))
theorem q12 (P : PT) (N4 : NTy k2 Pr) : QB Try.prog T0 36 o12 (En 36 k6 (B11 P N4)) k2 (B12 P N4) := fun _ _ _ _ _ _ _  => by kernel_rfl
noncomputable def o13 := ob Try.f171 [.r,.l,.r,.l,.l,.l]
def B13 (P : PT) (N4 : NTy k2 Pr) (x0 x1 x9 : Value) (x10 x11 : Int) (H : AHeap) : Prop :=
  pif (decide ((x11 : Int) < x10)) (B12 P N4 x0 x1 x9 x10 x11 H) (B3 P x0 x1 H)
theorem q13 (P : PT) (N4 : NTy k2 Pr) : QB Try.prog T0 36 o13 (cnd 12 (En 36 k2 (B12 P N4)) (En 36 k1 (B3 P))) k2 (B13 P N4) := fun _ _ _ _ _ _ _  => by kernel_rfl
def L4 (P : PT) (x0 x1 x9 : Value) (x10 x11 : Int) (H : AHeap) : Prop :=
  ∃ (I : NTy k2 Pr) (μ : NTy k2 (AHeap → Nat)), I x0 x1 x9 x10 x11 H ∧ ∀ y0 y1 y9 y10 y11 G, I y0 y1 y9 y10 y11 G → B13 P (fun z0 z1 z9 z10 z11 G' => I z0 z1 z9 z10 z11 G' ∧ μ z0 z1 z9 z10 z11 G' < μ y0 y1 y9 y10 y11 G) y0 y1 y9 y10 y11 G
theorem l4 (P : PT) : LQ k2 (L4 P) (B13 P) := fun ⟨_,_,_,_,_,_⟩ _ ⟨I, μ, h0, hI⟩ => ⟨apT _ I, apT _ μ, h0, fun ⟨_,_,_,_,_,_⟩ _ h => hI _ _ _ _ _ _  h⟩
noncomputable def o14 := ob Try.f171 [.r,.l,.l]
def B14 (P : PT) (x0 x1 : Value) (H : AHeap) : Prop :=
  lenK x0 (fun n1 => L4 P x0 x1 x0 (n1 : Int) 0 H)
theorem q14 (P : PT) : QB Try.prog T0 36 o14 (En 36 k2 (L4 P)) k1 (B14 P) := fun _ _ _ _  => by kernel_rfl
noncomputable def o15 := ob Try.f171 [.l]
def B15 (P : PT) (x0 x1 : Value) (H : AHeap) : Prop :=
  B14 P x0 x1 H
theorem q15 (P : PT) : QB Try.prog T0 36 o15 (En 36 k1 (B14 P)) k1 (B15 P) := fun _ _ _ _  => by kernel_rfl
noncomputable def code : Code := (.seq (.region 0 ⟨o15⟩ false) (.seq (.seq (.region 1 ⟨o14⟩ false) (.block 0 (.loop (.seq (.region 2 ⟨o13⟩ false) (.seq (.cond (.tmp 12) .skip (.exit 0)) (.seq (.block 1 (.seq (.region 3 ⟨o12⟩ false) (.seq (.seq (.region 4 ⟨o11⟩ false) (.cond (.tmp 19) (.seq (.region 5 ⟨o10⟩ false) .ret) .skip)) (.seq (.region 6 ⟨o9⟩ false) (.seq (.region 7 ⟨o8⟩ false) (.seq (.region 8 ⟨o7⟩ false) (.cond (.tmp 28) (.seq (.region 9 ⟨o6⟩ false) .ret) .skip))))))) (.region 10 ⟨o5⟩ false))))))) (.seq (.seq (.region 11 ⟨o3⟩ false) (.cond (.tmp 35) (.seq (.region 12 ⟨o2⟩ false) .ret) .skip)) (.seq (.region 13 ⟨o1⟩ false) .ret))))
theorem body : Try.f171.body = some code := by kernel_rfl
theorem main (P : PT) : ∀ env H, (En 36 k1 (B15 P)) env H → AW Try.prog T0 code env H (mkQ (ret P) (fun _ _ _ => False) (ret P)) :=
  (r_seq (rB T0_ok (q15 P)) (r_seq (r_seq (rB T0_ok (q14 P)) (r_block (rL (l4 P) (fun N4 => (r_seq (rB T0_ok (q13 P N4)) (r_seq (r_cond rfl r_skip (r_exit (fun _ _ h => h))) (r_seq (r_block (r_seq (rB T0_ok (q12 P N4)) (r_seq (r_seq (rB T0_ok (q11 P N4)) (r_cond rfl (r_seq (rB T0_ok (q10 P N4)) r_ret) r_skip)) (r_seq (rB T0_ok (q9 P N4)) (r_seq (rB T0_ok (q8 P N4)) (r_seq (rB T0_ok (q7 P N4)) (r_cond rfl (r_seq (rB T0_ok (q6 P N4)) r_ret) r_skip))))))) (rB T0_ok (q5 P N4))))))))) (r_seq (r_seq (rB T0_ok (q3 P)) (r_cond rfl (r_seq (rB T0_ok (q2 P)) r_ret) r_skip)) (r_seq (rB T0_ok (q1 P)) r_ret))))
theorem ac (P : PT) (x0 x1 : Value) (H : AHeap) (h : B15 P x0 x1 H) : AC Try.prog T0 171 [x0, x1] H P :=
  r_fn T0_ok (c := code) (n := 36) Try.func171 body (by kernel_rfl) (main P) (En_mk (x0, x1, ()) (by kernel_rfl) ⟨by kernel_rfl, by kernel_rfl, trivial⟩ h)

end F171
-- loop.example/g01329/impl.isSize
namespace F172
noncomputable def ret (P : PT) : EP := retE T0 10 Try.f172 P
abbrev k0 : Sk := [(0,.i .i64)]
noncomputable def o1 := ob Try.f172 [.r,.l]
def B1 (P : PT) (x0 : Int) (H : AHeap) : Prop :=
  AC Try.prog T0 53 [(Value.int .i64 x0), (Value.int .i64 2), (Value.int .i64 20)] H (fun v1 H2 => asB v1 (fun v3 => pif v3 (P (Value.bool ((Int.tmod x0 2 : Int) == 0)) H2) (P (Value.bool false) H2)))
theorem q1 (P : PT) : QB Try.prog T0 10 o1 (ret P) k0 (B1 P) := fun _ _ _  => by kernel_rfl
noncomputable def o2 := ob Try.f172 [.l]
def B2 (P : PT) (x0 : Int) (H : AHeap) : Prop :=
  B1 P x0 H
theorem q2 (P : PT) : QB Try.prog T0 10 o2 (En 10 k0 (B1 P)) k0 (B2 P) := fun _ _ _  => by kernel_rfl
noncomputable def code : Code := (.seq (.region 0 ⟨o2⟩ false) (.seq (.region 1 ⟨o1⟩ false) .ret))
theorem body : Try.f172.body = some code := by kernel_rfl
theorem main (P : PT) : ∀ env H, (En 10 k0 (B2 P)) env H → AW Try.prog T0 code env H (mkQ (ret P) (fun _ _ _ => False) (ret P)) :=
  (r_seq (rB T0_ok (q2 P)) (r_seq (rB T0_ok (q1 P)) r_ret))
theorem ac (P : PT) (x0 : Int) (H : AHeap) (h : B2 P x0 H) : AC Try.prog T0 172 [(Value.int .i64 x0)] H P :=
  r_fn T0_ok (c := code) (n := 10) Try.func172 body (by kernel_rfl) (main P) (En_mk (x0, ()) (by kernel_rfl) ⟨by kernel_rfl, trivial⟩ h)

end F172
-- loop.example/g01329/impl.areEdges$1
namespace F173
noncomputable def ret (P : PT) : EP := retE T0 23 Try.f173 P
abbrev k0 : Sk := [(1,.v),(2,.x)]
noncomputable def o1 := ob Try.f173 [.r,.l]
def B1 (P : PT) (x1 : Value) (x2 : Nat) (H : AHeap) : Prop :=
  ldI .i64 H x2 0 (fun v1 => asP x1 (fun b2 o3 => ldI .i64 H b2 o3 (fun v4 => AC Try.prog T0 53 [(Value.int .i64 v1), (Value.int .i64 0), (Value.int .i64 (IntKind.i64.wrap (v4 - 1)))] H (fun v5 H6 => asB v5 (fun v7 => pif v7 (ldI .i64 H6 x2 1 (fun v8 => asP x1 (fun b9 o10 => ldI .i64 H6 b9 o10 (fun v11 => AC Try.prog T0 53 [(Value.int .i64 v8), (Value.int .i64 0), (Value.int .i64 (IntKind.i64.wrap (v11 - 1)))] H6 (fun v12 H13 => asB v12 (fun v14 => pif v14 (ldI .i64 H13 x2 0 (fun v15 => ldI .i64 H13 x2 1 (fun v16 => P (Value.bool ((v15 : Int) != v16)) H13))) (P (Value.bool false) H13))))))) (P (Value.bool false) H6))))))
theorem q1 (P : PT) : QB Try.prog T0 23 o1 (ret P) k0 (B1 P) := fun _ _ _ _  => by kernel_rfl
abbrev k1 : Sk := [(0,.g [.i,.i]),(1,.v)]
noncomputable def o2 := ob Try.f173 [.l]
def B2 (P : PT) (x0a x0b : Int) (x1 : Value) (H : AHeap) : Prop :=
  newK H [(Value.int .i64 x0a), (Value.int .i64 x0b)] 67 (fun b1 H2 => B1 P x1 b1 H2)
theorem q2 (P : PT) : QB Try.prog T0 23 o2 (En 23 k0 (B1 P)) k1 (B2 P) := fun _ _ _ _ _  => by kernel_rfl
noncomputable def code : Code := (.seq (.region 0 ⟨o2⟩ false) (.seq (.region 1 ⟨o1⟩ false) .ret))
theorem body : Try.f173.body = some code := by kernel_rfl
theorem main (P : PT) : ∀ env H, (En 23 k1 (B2 P)) env H → AW Try.prog T0 code env H (mkQ (ret P) (fun _ _ _ => False) (ret P)) :=
  (r_seq (rB T0_ok (q2 P)) (r_seq (rB T0_ok (q1 P)) r_ret))
theorem ac (P : PT) (x0a x0b : Int) (x1 : Value) (H : AHeap) (h : B2 P x0a x0b x1 H) : AC Try.prog T0 173 [(Value.agg ⟨[(Value.int .i64 x0a), (Value.int .i64 x0b)]⟩), x1] H P :=
  r_fn T0_ok (c := code) (n := 23) Try.func173 body (by kernel_rfl) (main P) (En_mk (x0a, x0b, x1, ()) (by kernel_rfl) ⟨by kernel_rfl, by kernel_rfl, trivial⟩ h)

end F173
-- slices.ContainsFunc[[]loop.example/g01329/impl.Edge,loop.example/g01329/impl.Edge]
namespace F174
noncomputable def ret (P : PT) : EP := retE T0 9 Try.f174 P
abbrev k0 : Sk := [(0,.v),(1,.v)]
noncomputable def o1 := ob Try.f174 [.r,.l]
def B1 (P : PT) (x0 x1 : Value) (H : AHeap) : Prop :=
  AC Try.prog T0 181 [x0, x1] H (fun v1 H2 => asI .i64 v1 (fun v3 => P (Value.bool (decide ((v3 : Int) ≥ 0))) H2))
theorem q1 (P : PT) : QB Try.prog T0 9 o1 (ret P) k0 (B1 P) := fun _ _ _ _  => by kernel_rfl
noncomputable def o2 := ob Try.f174 [.l]
def B2 (P : PT) (x0 x1 : Value) (H : AHeap) : Prop :=
  B1 P x0 x1 H
theorem q2 (P : PT) : QB Try.prog T0 9 o2 (En 9 k0 (B1 P)) k0 (B2 P) := fun _ _ _ _  => by kernel_rfl
noncomputable def code : Code := (.seq (.region 0 ⟨o2⟩ false) (.seq (.region 1 ⟨o1⟩ false) .ret))
theorem body : Try.f174.body = some code := by kernel_rfl
theorem main (P : PT) : ∀ env H, (En 9 k0 (B2 P)) env H → AW Try.prog T0 code env H (mkQ (ret P) (fun _ _ _ => False) (ret P)) :=
  (r_seq (rB T0_ok (q2 P)) (r_seq (rB T0_ok (q1 P)) r_ret))
theorem ac (P : PT) (x0 x1 : Value) (H : AHeap) (h : B2 P x0 x1 H) : AC Try.prog T0 174 [x0, x1] H P :=
  r_fn T0_ok (c := code) (n := 9) Try.func174 body (by kernel_rfl) (main P) (En_mk (x0, x1, ()) (by kernel_rfl) ⟨by kernel_rfl, by kernel_rfl, trivial⟩ h)

end F174
-- loop.example/g01329/impl.areAll[loop.example/g01329/impl.Edge]$1
namespace F175
noncomputable def ret (P : PT) : EP := retE T0 8 Try.f175 P
abbrev k0 : Sk := [(1,.v),(2,.x)]
noncomputable def o1 := ob Try.f175 [.r,.l]
def B1 (P : PT) (x1 : Value) (x2 : Nat) (H : AHeap) : Prop :=
  asP x1 (fun b1 o2 => ld1 H b1 o2 (fun v3 => ldI .i64 H x2 0 (fun v4 => ldI .i64 H x2 1 (fun v5 => callV Try.prog T0 v3 [(Value.agg ⟨[(Value.int .i64 v4), (Value.int .i64 v5)]⟩)] H (fun v6 H7 => asB v6 (fun v8 => P (Value.bool (!v8)) H7))))))
theorem q1 (P : PT) : QB Try.prog T0 8 o1 (ret P) k0 (B1 P) := fun _ _ _ _  => by kernel_rfl
abbrev k1 : Sk := [(0,.g [.i,.i]),(1,.v)]
noncomputable def o2 := ob Try.f175 [.l]
def B2 (P : PT) (x0a x0b : Int) (x1 : Value) (H : AHeap) : Prop :=
  newK H [(Value.int .i64 x0a), (Value.int .i64 x0b)] 67 (fun b1 H2 => B1 P x1 b1 H2)
theorem q2 (P : PT) : QB Try.prog T0 8 o2 (En 8 k0 (B1 P)) k1 (B2 P) := fun _ _ _ _ _  => by kernel_rfl
noncomputable def code : Code := (.seq (.region 0 ⟨o2⟩ false) (.seq (.region 1 ⟨o1⟩ false) .ret))
theorem body : Try.f175.body = some code := by kernel_rfl
theorem main (P : PT) : ∀ env H, (En 8 k1 (B2 P)) env H → AW Try.prog T0 code env H (mkQ (ret P) (fun _ _ _ => False) (ret P)) :=
  (r_seq (rB T0_ok (q2 P)) (r_seq (rB T0_ok (q1 P)) r_ret))
theorem ac (P : PT) (x0a x0b : Int) (x1 : Value) (H : AHeap) (h : B2 P x0a x0b x1 H) : AC Try.prog T0 175 [(Value.agg ⟨[(Value.int .i64 x0a), (Value.int .i64 x0b)]⟩), x1] H P :=
  r_fn T0_ok (c := code) (n := 8) Try.func175 body (by kernel_rfl) (main P) (En_mk (x0a, x0b, x1, ()) (by kernel_rfl) ⟨by kernel_rfl, by kernel_rfl, trivial⟩ h)

end F175
-- loop.example/g01329/impl.isCubic$1
namespace F176
noncomputable def ret (P : PT) : EP := retE T0 5 Try.f176 P
abbrev k0 : Sk := [(0,.i .i64)]
noncomputable def o1 := ob Try.f176 [.r,.l]
def B1 (P : PT) (x0 : Int) (H : AHeap) : Prop :=
  P (Value.bool ((x0 : Int) == 3)) H
theorem q1 (P : PT) : QB Try.prog T0 5 o1 (ret P) k0 (B1 P) := fun _ _ _  => by kernel_rfl
noncomputable def o2 := ob Try.f176 [.l]
def B2 (P : PT) (x0 : Int) (H : AHeap) : Prop :=
  B1 P x0 H
theorem q2 (P : PT) : QB Try.prog T0 5 o2 (En 5 k0 (B1 P)) k0 (B2 P) := fun _ _ _  => by kernel_rfl
noncomputable def code : Code := (.seq (.region 0 ⟨o2⟩ false) (.seq (.region 1 ⟨o1⟩ false) .ret))
theorem body : Try.f176.body = some code := by kernel_rfl
theorem main (P : PT) : ∀ env H, (En 5 k0 (B2 P)) env H → AW Try.prog T0 code env H (mkQ (ret P) (fun _ _ _ => False) (ret P)) :=
  (r_seq (rB T0_ok (q2 P)) (r_seq (rB T0_ok (q1 P)) r_ret))
theorem ac (P : PT) (x0 : Int) (H : AHeap) (h : B2 P x0 H) : AC Try.prog T0 176 [(Value.int .i64 x0)] H P :=
  r_fn T0_ok (c := code) (n := 5) Try.func176 body (by kernel_rfl) (main P) (En_mk (x0, ()) (by kernel_rfl) ⟨by kernel_rfl, trivial⟩ h)

end F176
-- slices.IndexFunc[[]int,int]
namespace F179
noncomputable def ret (P : PT) : EP := retE T0 19 Try.f179 P
abbrev k0 : Sk := []
noncomputable def o1 := ob Try.f179 [.r,.r,.l]
def B1 (P : PT) (H : AHeap) : Prop :=
  P (Value.int .i64 (-1)) H
theorem q1 (P : PT) : QB Try.prog T0 19 o1 (ret P) k0 (B1 P) := fun _ _  => by kernel_rfl
abbrev k1 : Sk := [(0,.v),(1,.v),(7,.i .i64),(8,.i .i64)]
noncomputable def o3 := ob Try.f179 [.r,.l,.r,.l,.l,.r,.r,.r]
def B3 (P : PT) (N2 : NTy k1 Pr) (x0 x1 : Value) (x7 x8 : Int) (H : AHeap) : Prop :=
  N2 x0 x1 x7 (IntKind.i64.wrap (x8 + 1)) H
theorem q3 (P : PT) (N2 : NTy k1 Pr) : QB Try.prog T0 19 o3 (En 19 k1 N2) k1 (B3 P N2) := fun _ _ _ _ _ _  => by kernel_rfl
abbrev k2 : Sk := [(5,.i .i64)]
noncomputable def o4 := ob Try.f179 [.r,.l,.r,.l,.l,.r,.r,.l,.l,.r,.r,.l,.l]
def B4 (P : PT) (N2 : NTy k1 Pr) (x5 : Int) (H : AHeap) : Prop :=
  P (Value.int .i64 x5) H
theorem q4 (P : PT) (N2 : NTy k1 Pr) : QB Try.prog T0 19 o4 (ret P) k2 (B4 P N2) := fun _ _ _  => by kernel_rfl
abbrev k3 : Sk := [(0,.v),(1,.v),(5,.i .i64),(7,.i .i64),(8,.i .i64)]
noncomputable def o5 := ob Try.f179 [.r,.l,.r,.l,.l,.r,.r,.l,.l,.r,.l]
def B5 (P : PT) (N2 : NTy k1 Pr) (x0 x1 : Value) (x5 x7 x8 : Int) (H : AHeap) : Prop :=
  idxK x0 x5 1 (fun b1 o2 => ldI .i64 H b1 o2 (fun v3 => callV Try.prog T0 x1 [(Value.int .i64 v3)] H (fun v4 H5 => asB v4 (fun v6 => pif v6 (B4 P N2 x5 H5) (B3 P N2 x0 x1 x7 x8 H5)))))
theorem q5 (P : PT) (N2 : NTy k1 Pr) : QB Try.prog T0 19 o5 (cnd 16 (En 19 k2 (B4 P N2)) (En 19 k1 (B3 P N2))) k3 (B5 P N2) := fun _ _ _ _ _ _ _  => by kernel_rfl
noncomputable def o6 := ob Try.f179 [.r,.l,.r,.l,.l,.r,.r,.l,.l,.l]
def B6 (P : PT) (N2 : NTy k1 Pr) (x0 x1 : Value) (x7 x8 : Int) (H : AHeap) : Prop :=
  B5 P N2 x0 x1 x8 x7 x8 H
theorem q6 (P : PT) (N2 : NTy k1 Pr) : QB Try.prog T0 19 o6 (En 19 k3 (B5 P N2)) k1 (B6 P N2) := fun _ _ _ _ _ _  => by kernel_rfl
noncomputable def o7 := ob Try.f179 [.r,.l,.r,.l,.l,.l]
def B7 (P : PT) (N2 : NTy k1 Pr) (x0 x1 : Value) (x7 x8 : Int) (H : AHeap) : Prop :=
  pif (decide ((x8 : Int) < x7)) (B6 P N2 x0 x1 x7 x8 H) (B1 P H)
theorem q7 (P : PT) (N2 : NTy k1 Pr) : QB Try.prog T0 19 o7 (cnd 9 (En 19 k1 (B6 P N2)) (En 19 k0 (B1 P))) k1 (B7 P N2) := fun _ _ _ _ _ _  => by kernel_rfl
def L2 (P : PT) (x0 x1 : Value) (x7 x8 : Int) (H : AHeap) : Prop :=
  ∃ (I : NTy k1 Pr) (μ : NTy k1 (AHeap → Nat)), I x0 x1 x7 x8 H ∧ ∀ y0 y1 y7 y8 G, I y0 y1 y7 y8 G → B7 P (fun z0 z1 z7 z8 G' => I z0 z1 z7 z8 G' ∧ μ z0 z1 z7 z8 G' < μ y0 y1 y7 y8 G) y0 y1 y7 y8 G
theorem l2 (P : PT) : LQ k1 (L2 P) (B7 P) := fun ⟨_,_,_,_,_⟩ _ ⟨I, μ, h0, hI⟩ => ⟨apT _ I, apT _ μ, h0, fun ⟨_,_,_,_,_⟩ _ h => hI _ _ _ _ _  h⟩
abbrev k4 : Sk := [(0,.v),(1,.v)]
noncomputable def o8 := ob Try.f179 [.r,.l,.l]
def B8 (P : PT) (x0 x1 : Value) (H : AHeap) : Prop :=
  lenK x0 (fun n1 => L2 P x0 x1 (n1 : Int) 0 H)
theorem q8 (P : PT) : QB Try.prog T0 19 o8 (En 19 k1 (L2 P)) k4 (B8 P) := fun _ _ _ _  => by kernel_rfl
noncomputable def o9 := ob Try.f179 [.l]
def B9 (P : PT) (x0 x1 : Value) (H : AHeap) : Prop :=
  B8 P x0 x1 H
theorem q9 (P : PT) : QB Try.prog T0 19 o9 (En 19 k4 (B8 P)) k4 (B9 P) := fun _ _ _ _  => by kernel_rfl
noncomputable def code : Code := (.seq (.region 0 ⟨o9⟩ false) (.seq (.seq (.region 1 ⟨o8⟩ false) (.block 0 (.loop (.seq (.region 2 ⟨o7⟩ false) (.seq (.cond (.tmp 9) .skip (.exit 0)) (.seq (.block 1 (.seq (.region 3 ⟨o6⟩ false) (.seq (.region 4 ⟨o5⟩ false) (.cond (.tmp 16) (.seq (.region 5 ⟨o4⟩ false) .ret) .skip)))) (.region 6 ⟨o3⟩ false))))))) (.seq (.region 7 ⟨o1⟩ false) .ret)))
theorem body : Try.f179.body = some code := by kernel_rfl
theorem main (P : PT) : ∀ env H, (En 19 k4 (B9 P)) env H → AW Try.prog T0 code env H (mkQ (ret P) (fun _ _ _ => False) (ret P)) :=
  (r_seq (rB T0_ok (q9 P)) (r_seq (r_seq (rB T0_ok (q8 P)) (r_block (rL (l2 P) (fun N2 => (r_seq (rB T0_ok (q7 P N2)) (r_seq (r_cond rfl r_skip (r_exit (fun _ _ h => h))) (r_seq (r_block (r_seq (rB T0_ok (q6 P N2)) (r_seq (rB T0_ok (q5 P N2)) (r_cond rfl (r_seq (rB T0_ok (q4 P N2)) r_ret) r_skip)))) (rB T0_ok (q3 P N2))))))))) (r_seq (rB T0_ok (q1 P)) r_ret)))
theorem ac (P : PT) (x0 x1 : Value) (H : AHeap) (h : B9 P x0 x1 H) : AC Try.prog T0 179 [x0, x1] H P :=
  r_fn T0_ok (c := code) (n := 19) Try.func179 body (by kernel_rfl) (main P) (En_mk (x0, x1, ()) (by kernel_rfl) ⟨by kernel_rfl, by kernel_rfl, trivial⟩ h)

end F179
-- slices.IndexFunc[[]loop.example/g01329/impl.Edge,loop.example/g01329/impl.Edge]
namespace F181
noncomputable def ret (P : PT) : EP := retE T0 19 Try.f181 P
abbrev k0 : Sk := []
noncomputable def o1 := ob Try.f181 [.r,.r,.l]
def B1 (P : PT) (H : AHeap) : Prop :=
  P (Value.int .i64 (-1)) H
theorem q1 (P : PT) : QB Try.prog T0 19 o1 (ret P) k0 (B1 P) := fun _ _  => by kernel_rfl
abbrev k1 : Sk := [(0,.v),(1,.v),(7,.i .i64),(8,.i .i64)]
noncomputable def o3 := ob Try.f181 [.r,.l,.r,.l,.l,.r,.r,.r]
def B3 (P : PT) (N2 : NTy k1 Pr) (x0 x1 : Value) (x7 x8 : Int) (H : AHeap) : Prop :=
  N2 x0 x1 x7 (IntKind.i64.wrap (x8 + 1)) H
theorem q3 (P : PT) (N2 : NTy k1 Pr) : QB Try.prog T0 19 o3 (En 19 k1 N2) k1 (B3 P N2) := fun _ _ _ _ _ _  => by kernel_rfl
abbrev k2 : Sk := [(5,.i .i64)]
noncomputable def o4 := ob Try.f181 [.r,.l,.r,.l,.l,.r,.r,.l,.l,.r,.r,.l,.l]
def B4 (P : PT) (N2 : NTy k1 Pr) (x5 : Int) (H : AHeap) : Prop :=
  P (Value.int .i64 x5) H
theorem q4 (P : PT) (N2 : NTy k1 Pr) : QB Try.prog T0 19 o4 (ret P) k2 (B4 P N2) := fun _ _ _  => by kernel_rfl
abbrev k3 : Sk := [(0,.v),(1,.v),(5,.i .i64),(7,.i .i64),(8,.i .i64)]
noncomputable def o5 := ob Try.f181 [.r,.l,.r,.l,.l,.r,.r,.l,.l,.r,.l]
def B5 (P : PT) (N2 : NTy k1 Pr) (x0 x1 : Value) (x5 x7 x8 : Int) (H : AHeap) : Prop :=
  idxK x0 x5 2 (fun b1 o2 => ldI .i64 H b1 o2 (fun v3 => ldI .i64 H b1 (o2 + 1) (fun v4 => callV Try.prog T0 x1 [(Value.agg ⟨[(Value.int .i64 v3), (Value.int .i64 v4)]⟩)] H (fun v5 H6 => asB v5 (fun v7 => pif v7 (B4 P N2 x5 H6) (B3 P N2 x0 x1 x7 x8 H6))))))
theorem q5 (P : PT) (N2 : NTy k1 Pr) : QB Try.prog T0 19 o5 (cnd 16 (En 19 k2 (B4 P N2)) (En 19 k1 (B3 P N2))) k3 (B5 P N2) := fun _ _ _ _ _ _ _  => by kernel_rfl
noncomputable def o6 := ob Try.f181 [.r,.l,.r,.l,.l,.r,.r,.l,.l,.l]
def B6 (P : PT) (N2 : NTy k1 Pr) (x0 x1 : Value) (x7 x8 : Int) (H : AHeap) : Prop :=
  B5 P N2 x0 x1 x8 x7 x8 H
theorem q6 (P : PT) (N2 : NTy k1 Pr) : QB Try.prog T0 19 o6 (En 19 k3 (B5 P N2)) k1 (B6 P N2) := fun _ _ _ _ _ _  => by kernel_rfl
noncomputable def o7 := ob Try.f181 [.r,.l,.r,.l,.l,.l]
def B7 (P : PT) (N2 : NTy k1 Pr) (x0 x1 : Value) (x7 x8 : Int) (H : AHeap) : Prop :=
  pif (decide ((x8 : Int) < x7)) (B6 P N2 x0 x1 x7 x8 H) (B1 P H)
theorem q7 (P : PT) (N2 : NTy k1 Pr) : QB Try.prog T0 19 o7 (cnd 9 (En 19 k1 (B6 P N2)) (En 19 k0 (B1 P))) k1 (B7 P N2) := fun _ _ _ _ _ _  => by kernel_rfl
def L2 (P : PT) (x0 x1 : Value) (x7 x8 : Int) (H : AHeap) : Prop :=
  ∃ (I : NTy k1 Pr) (μ : NTy k1 (AHeap → Nat)), I x0 x1 x7 x8 H ∧ ∀ y0 y1 y7 y8 G, I y0 y1 y7 y8 G → B7 P (fun z0 z1 z7 z8 G' => I z0 z1 z7 z8 G' ∧ μ z0 z1 z7 z8 G' < μ y0 y1 y7 y8 G) y0 y1 y7 y8 G
theorem l2 (P : PT) : LQ k1 (L2 P) (B7 P) := fun ⟨_,_,_,_,_⟩ _ ⟨I, μ, h0, hI⟩ => ⟨apT _ I, apT _ μ, h0, fun ⟨_,_,_,_,_⟩ _ h => hI _ _ _ _ _  h⟩
abbrev k4 : Sk := [(0,.v),(1,.v)]
noncomputable def o8 := ob Try.f181 [.r,.l,.l]
def B8 (P : PT) (x0 x1 : Value) (H : AHeap) : Prop :=
  lenK x0 (fun n1 => L2 P x0 x1 (n1 : Int) 0 H)
theorem q8 (P : PT) : QB Try.prog T0 19 o8 (En 19 k1 (L2 P)) k4 (B8 P) := fun _ _ _ _  => by kernel_rfl
noncomputable def o9 := ob Try.f181 [.l]
def B9 (P : PT) (x0 x1 : Value) (H : AHeap) : Prop :=
  B8 P x0 x1 H
theorem q9 (P : PT) : QB Try.prog T0 19 o9 (En 19 k4 (B8 P)) k4 (B9 P) := fun _ _ _ _  => by kernel_rfl
noncomputable def code : Code := (.seq (.region 0 ⟨o9⟩ false) (.seq (.seq (.region 1 ⟨o8⟩ false) (.block 0 (.loop (.seq (.region 2 ⟨o7⟩ false) (.seq (.cond (.tmp 9) .skip (.exit 0)) (.seq (.block 1 (.seq (.region 3 ⟨o6⟩ false) (.seq (.region 4 ⟨o5⟩ false) (.cond (.tmp 16) (.seq (.region 5 ⟨o4⟩ false) .ret) .skip)))) (.region 6 ⟨o3⟩ false))))))) (.seq (.region 7 ⟨o1⟩ false) .ret)))
theorem body : Try.f181.body = some code := by kernel_rfl
theorem main (P : PT) : ∀ env H, (En 19 k4 (B9 P)) env H → AW Try.prog T0 code env H (mkQ (ret P) (fun _ _ _ => False) (ret P)) :=
  (r_seq (rB T0_ok (q9 P)) (r_seq (r_seq (rB T0_ok (q8 P)) (r_block (rL (l2 P) (fun N2 => (r_seq (rB T0_ok (q7 P N2)) (r_seq (r_cond rfl r_skip (r_exit (fun _ _ h => h))) (r_seq (r_block (r_seq (rB T0_ok (q6 P N2)) (r_seq (rB T0_ok (q5 P N2)) (r_cond rfl (r_seq (rB T0_ok (q4 P N2)) r_ret) r_skip)))) (rB T0_ok (q3 P N2))))))))) (r_seq (rB T0_ok (q1 P)) r_ret)))
theorem ac (P : PT) (x0 x1 : Value) (H : AHeap) (h : B9 P x0 x1 H) : AC Try.prog T0 181 [x0, x1] H P :=
  r_fn T0_ok (c := code) (n := 19) Try.func181 body (by kernel_rfl) (main P) (En_mk (x0, x1, ()) (by kernel_rfl) ⟨by kernel_rfl, by kernel_rfl, trivial⟩ h)

end F181
-- slices.nextPowerOfTwo
namespace F184
noncomputable def ret (P : PT) : EP := retE T0 7 Try.f184 P
abbrev k0 : Sk := [(0,.i .i64)]
noncomputable def o1 := ob Try.f184 [.r,.l]
def B1 (P : PT) (x0 : Int) (H : AHeap) : Prop :=
  AC Try.prog T0 117 [(Value.int .u64 (IntKind.u64.wrap x0))] H (fun v1 H2 => asI .i64 v1 (fun v3 => ((0 : Int) ≤ v3) ∧ (P (Value.int .u64 (IntKind.u64.wrap (1 * 2 ^ (min (Int.toNat v3) 64)))) H2)))
theorem q1 (P : PT) : QB Try.prog T0 7 o1 (ret P) k0 (B1 P) := fun _ _ _  => by kernel_rfl
noncomputable def o2 := ob Try.f184 [.l]
def B2 (P : PT) (x0 : Int) (H : AHeap) : Prop :=
  B1 P x0 H
theorem q2 (P : PT) : QB Try.prog T0 7 o2 (En 7 k0 (B1 P)) k0 (B2 P) := fun _ _ _  => by kernel_rfl
noncomputable def code : Code := (.seq (.region 0 ⟨o2⟩ false) (.seq (.region 1 ⟨o1⟩ false) .ret))
theorem body : Try.f184.body = some code := by kernel_rfl
theorem main (P : PT) : ∀ env H, (En 7 k0 (B2 P)) env H → AW Try.prog T0 code env H (mkQ (ret P) (fun _ _ _ => False) (ret P)) :=
  (r_seq (rB T0_ok (q2 P)) (r_seq (rB T0_ok (q1 P)) r_ret))
theorem ac (P : PT) (x0 : Int) (H : AHeap) (h : B2 P x0 H) : AC Try.prog T0 184 [(Value.int .i64 x0)] H P :=
  r_fn T0_ok (c := code) (n := 7) Try.func184 body (by kernel_rfl) (main P) (En_mk (x0, ()) (by kernel_rfl) ⟨by kernel_rfl, trivial⟩ h)

end F184
-- (*slices.xorshift).Next
namespace F185
noncomputable def ret (P : PT) : EP := retE T0 33 Try.f185 P
abbrev k0 : Sk := [(0,.v)]
noncomputable def o1 := ob Try.f185 [.r,.r,.r,.r,.l]
def B1 (P : PT) (x0 : Value) (H : AHeap) : Prop :=
  nilK x0 (fun v1 => asP v1 (fun b2 o3 => ldI .u64 H b2 o3 (fun v4 => P (Value.int .u64 v4) H)))
theorem q1 (P : PT) : QB Try.prog T0 33 o1 (ret P) k0 (B1 P) := fun _ _ _  => by kernel_rfl
noncomputable def o2 := ob Try.f185 [.r,.r,.r,.l]
def B2 (P : PT) (x0 : Value) (H : AHeap) : Prop :=
  nilK x0 (fun v1 => asP v1 (fun b2 o3 => ldI .u64 H b2 o3 (fun v4 => nilK x0 (fun v5 => asP v5 (fun b6 o7 => ldI .u64 H b6 o7 (fun v8 => ((0 : Int) ≤ 17) ∧ (nilK x0 (fun v9 => asP v9 (fun b10 o11 => stK H b10 o11 [(Value.int .u64 (IntKind.u64.wrap (BitVec.ofInt 64 v4 ^^^ BitVec.ofInt 64 (IntKind.u64.wrap (v8 * 2 ^ (min (Int.toNat 17) 64)))).toNat))] (fun H12 => B1 P x0 H12))))))))))
theorem q2 (P : PT) : QD Try.prog T0 33 o2 [(0, false), (1, false), (2, false), (3, false), (4, false), (5, false), (6, false), (7, false), (8, false), (9, false)] (En 33 k0 (B1 P)) k0 (B2 P) := fun _ _ _  => by kernel_rfl
noncomputable def o3 := ob Try.f185 [.r,.r,.l]
def B3 (P : PT) (x0 : Value) (H : AHeap) : Prop :=
  nilK x0 (fun v1 => asP v1 (fun b2 o3 => ldI .u64 H b2 o3 (fun v4 => nilK x0 (fun v5 => asP v5 (fun b6 o7 => ldI .u64 H b6 o7 (fun v8 => ((0 : Int) ≤ 7) ∧ (nilK x0 (fun v9 => asP v9 (fun b10 o11 => stK H b10 o11 [(Value.int .u64 (IntKind.u64.wrap (BitVec.ofInt 64 v4 ^^^ BitVec.ofInt 64 (Int.fdiv v8 (2 ^ (min (Int.toNat 7) 64)))).toNat))] (fun H12 => B2 P x0 H12))))))))))
theorem q3 (P : PT) : QD Try.prog T0 33 o3 [(0, false), (1, false), (2, false), (3, false), (4, false), (5, false), (6, false), (7, false), (8, false), (9, false)] (En 33 k0 (B2 P)) k0 (B3 P) := fun _ _ _  => by kernel_rfl
noncomputable def o4 := ob Try.f185 [.r,.l]
def B4 (P : PT) (x0 : Value) (H : AHeap) : Prop :=
  nilK x0 (fun v1 => asP v1 (fun b2 o3 => ldI .u64 H b2 o3 (fun v4 => nilK x0 (fun v5 => asP v5 (fun b6 o7 => ldI .u64 H b6 o7 (fun v8 => ((0 : Int) ≤ 13) ∧ (nilK x0 (fun v9 => asP v9 (fun b10 o11 => stK H b10 o11 [(Value.int .u64 (IntKind.u64.wrap (BitVec.ofInt 64 v4 ^^^ BitVec.ofInt 64 (IntKind.u64.wrap (v8 * 2 ^ (min (Int.toNat 13) 64)))).toNat))] (fun H12 => B3 P x0 H12))))))))))
theorem q4 (P : PT) : QD Try.prog T0 33 o4 [(0, false), (1, false), (2, false), (3, false), (4, false), (5, false), (6, false), (7, false), (8, false), (9, false)] (En 33 k0 (B3 P)) k0 (B4 P) := fun _ _ _  => by kernel_rfl
noncomputable def o5 := ob Try.f185 [.l]
def B5 (P : PT) (x0 : Value) (H : AHeap) : Prop :=
  B4 P x0 H
theorem q5 (P : PT) : QB Try.prog T0 33 o5 (En 33 k0 (B4 P)) k0 (B5 P) := fun _ _ _  => by kernel_rfl
noncomputable def code : Code := (.seq (.region 0 ⟨o5⟩ false) (.seq (.region 1 ⟨o4⟩ true) (.seq (.region 2 ⟨o3⟩ true) (.seq (.region 3 ⟨o2⟩ true) (.seq (.region 4 ⟨o1⟩ false) .ret)))))
theorem body : Try.f185.body = some code := by kernel_rfl
theorem main (P : PT) : ∀ env H, (En 33 k0 (B5 P)) env H → AW Try.prog T0 code env H (mkQ (ret P) (fun _ _ _ => False) (ret P)) :=
  (r_seq (rB T0_ok (q5 P)) (r_seq (rD T0_ok mixed [(0, false), (1, false), (2, false), (3, false), (4, false), (5, false), (6, false), (7, false), (8, false), (9, false)] (by kernel_rfl) (q4 P)) (r_seq (rD T0_ok mixed [(0, false), (1, false), (2, false), (3, false), (4, false), (5, false), (6, false), (7, false), (8, false), (9, false)] (by kernel_rfl) (q3 P)) (r_seq (rD T0_ok mixed [(0, false), (1, false), (2, false), (3, false), (4, false), (5, false), (6, false), (7, false), (8, false), (9, false)] (by kernel_rfl) (q2 P)) (r_seq (rB T0_ok (q1 P)) r_ret)))))
theorem ac (P : PT) (x0 : Value) (H : AHeap) (h : B5 P x0 H) : AC Try.prog T0 185 [x0] H P :=
  r_fn T0_ok (c := code) (n := 33) Try.func185 body (by kernel_rfl) (main P) (En_mk (x0, ()) (by kernel_rfl) ⟨by kernel_rfl, trivial⟩ h)

end F185
-- cmp.isNaN[int64]
namespace F188
noncomputable def ret (P : PT) : EP := retE T0 6 Try.f188 P
abbrev k0 : Sk := [(0,.i .i64)]
noncomputable def o1 := ob Try.f188 [.r,.l]
def B1 (P : PT) (x0 : Int) (H : AHeap) : Prop :=
  P (Value.bool ((x0 : Int) != x0)) H
theorem q1 (P : PT) : QB Try.prog T0 6 o1 (ret P) k0 (B1 P) := fun _ _ _  => by kernel_rfl
noncomputable def o2 := ob Try.f188 [.l]
def B2 (P : PT) (x0 : Int) (H : AHeap) : Prop :=
  B1 P x0 H
theorem q2 (P : PT) : QB Try.prog T0 6 o2 (En 6 k0 (B1 P)) k0 (B2 P) := fun _ _ _  => by kernel_rfl
noncomputable def code : Code := (.seq (.region 0 ⟨o2⟩ false) (.seq (.region 1 ⟨o1⟩ false) .ret))
theorem body : Try.f188.body = some code := by kernel_rfl
theorem main (P : PT) : ∀ env H, (En 6 k0 (B2 P)) env H → AW Try.prog T0 code env H (mkQ (ret P) (fun _ _ _ => False) (ret P)) :=
  (r_seq (rB T0_ok (q2 P)) (r_seq (rB T0_ok (q1 P)) r_ret))
theorem ac (P : PT) (x0 : Int) (H : AHeap) (h : B2 P x0 H) : AC Try.prog T0 188 [(Value.int .i64 x0)] H P :=
  r_fn T0_ok (c := code) (n := 6) Try.func188 body (by kernel_rfl) (main P) (En_mk (x0, ()) (by kernel_rfl) ⟨by kernel_rfl, trivial⟩ h)

end F188
-- slices.Repeat[[]int64,int64]
namespace F189
noncomputable def ret (P : PT) : EP := retE T0 48 Try.f189 P
abbrev k0 : Sk := [(7,.v)]
noncomputable def o1 := ob Try.f189 [.r,.r,.r,.r,.r,.r,.r,.l]
def B1 (P : PT) (x7 : Value) (H : AHeap) : Prop :=
  P x7 H
theorem q1 (P : PT) : QB Try.prog T0 48 o1 (ret P) k0 (B1 P) := fun _ _ _  => by kernel_rfl
abbrev k1 : Sk := [(7,.v),(8,.i .i64)]
noncomputable def o3 := ob Try.f189 [.r,.r,.r,.r,.r,.r,.l,.l,.l,.r,.l]
def B3 (P : PT) (N2 : NTy k1 Pr) (x7 : Value) (x8 : Int) (H : AHeap) : Prop :=
  sliceK H 2 x7 (some (Value.int .i64 x8)) none 1 (fun v1 => sliceK H 2 x7 none (some (Value.int .i64 x8)) 1 (fun v2 => cpK T0 2 H v1 v2 (fun n3 H4 => N2 x7 (IntKind.i64.wrap (x8 + (n3 : Int))) H4)))
theorem q3 (P : PT) (N2 : NTy k1 Pr) : QD Try.prog T0 48 o3 [(0, false), (1, false), (2, false), (3, false), (4, false), (5, false), (6, false), (7, false), (8, false), (9, false)] (En 48 k1 N2) k1 (B3 P N2) := fun _ _ _ _  => by kernel_rfl
noncomputable def o4 := ob Try.f189 [.r,.r,.r,.r,.r,.r,.l,.l,.l,.l,.l]
def B4 (P : PT) (N2 : NTy k1 Pr) (x7 : Value) (x8 : Int) (H : AHeap) : Prop :=
  lenK x7 (fun n1 => pif (decide ((x8 : Int) < (n1 : Int))) (B3 P N2 x7 x8 H) (B1 P x7 H))
theorem q4 (P : PT) (N2 : NTy k1 Pr) : QB Try.prog T0 48 o4 (cnd 37 (En 48 k1 (B3 P N2)) (En 48 k0 (B1 P))) k1 (B4 P N2) := fun _ _ _ _  => by kernel_rfl
def L2 (P : PT) (x7 : Value) (x8 : Int) (H : AHeap) : Prop :=
  ∃ (I : NTy k1 Pr) (μ : NTy k1 (AHeap → Nat)), I x7 x8 H ∧ ∀ y7 y8 G, I y7 y8 G → B4 P (fun z7 z8 G' => I z7 z8 G' ∧ μ z7 z8 G' < μ y7 y8 G) y7 y8 G
theorem l2 (P : PT) : LQ k1 (L2 P) (B4 P) := fun ⟨_,_,_⟩ _ ⟨I, μ, h0, hI⟩ => ⟨apT _ I, apT _ μ, h0, fun ⟨_,_,_⟩ _ h => hI _ _ _  h⟩
abbrev k2 : Sk := [(0,.v),(7,.v)]
noncomputable def o5 := ob Try.f189 [.r,.r,.r,.r,.r,.l]
def B5 (P : PT) (x0 x7 : Value) (H : AHeap) : Prop :=
  cpK T0 2 H x7 x0 (fun n1 H2 => L2 P x7 (n1 : Int) H2)
theorem q5 (P : PT) : QB Try.prog T0 48 o5 (En 48 k1 (L2 P)) k2 (B5 P) := fun _ _ _ _  => by kernel_rfl
abbrev k3 : Sk := [(0,.v),(6,.i .u64)]
noncomputable def o6 := ob Try.f189 [.r,.r,.r,.r,.l]
def B6 (P : PT) (x0 : Value) (x6 : Int) (H : AHeap) : Prop :=
  mkR H 8 2 [(Value.int .i64 0)] (IntKind.i64.wrap x6) (IntKind.i64.wrap x6) (fun v2 H1 => B5 P x0 v2 H1)
theorem q6 (P : PT) : QB Try.prog T0 48 o6 (En 48 k2 (B5 P)) k3 (B6 P) := fun _ _ _ _  => by kernel_rfl
abbrev k4 : Sk := [(0,.v),(5,.i .u64),(6,.i .u64)]
noncomputable def o7 := ob Try.f189 [.r,.r,.r,.l,.l]
def B7 (P : PT) (x0 : Value) (x5 x6 : Int) (H : AHeap) : Prop :=
  pif (decide ((x5 : Int) > 0)) (False) (pif (decide ((x6 : Int) > 9223372036854775807)) (False) (B6 P x0 x6 H))
theorem q7 (P : PT) : QB Try.prog T0 48 o7 (cnd 26 (fun _ _ => False) (En 48 k3 (B6 P))) k4 (B7 P) := fun _ _ _ _ _  => by kernel_rfl
abbrev k5 : Sk := [(0,.v),(1,.i .i64)]
noncomputable def o8 := ob Try.f189 [.r,.r,.l]
def B8 (P : PT) (x0 : Value) (x1 : Int) (H : AHeap) : Prop :=
  lenK x0 (fun n1 => AC Try.prog T0 208 [(Value.int .u64 (IntKind.u64.wrap (n1 : Int))), (Value.int .u64 (IntKind.u64.wrap x1))] H (fun v2 H3 => tup2 v2 (fun v4 v5 => asI .u64 v4 (fun v6 => asI .u64 v5 (fun v7 => B7 P x0 v6 v7 H3)))))
theorem q8 (P : PT) : QB Try.prog T0 48 o8 (En 48 k4 (B7 P)) k5 (B8 P) := fun _ _ _ _  => by kernel_rfl
noncomputable def o9 := ob Try.f189 [.r,.l,.l]
def B9 (P : PT) (x0 : Value) (x1 : Int) (H : AHeap) : Prop :=
  pif (decide ((x1 : Int) < 0)) (False) (B8 P x0 x1 H)
theorem q9 (P : PT) : QB Try.prog T0 48 o9 (cnd 10 (fun _ _ => False) (En 48 k5 (B8 P))) k5 (B9 P) := fun _ _ _ _  => by kernel_rfl
noncomputable def o10 := ob Try.f189 [.l]
def B10 (P : PT) (x0 : Value) (x1 : Int) (H : AHeap) : Prop :=
  B9 P x0 x1 H
theorem q10 (P : PT) : QB Try.prog T0 48 o10 (En 48 k5 (B9 P)) k5 (B10 P) := fun _ _ _ _  => by kernel_rfl
noncomputable def code : Code := (.seq (.region 0 ⟨o10⟩ false) (.seq (.seq (.region 1 ⟨o9⟩ false) (.cond (.tmp 10) (codeAt (bodyOf Try.f189) [.r,.l,.r,.l]) .skip)) (.seq (.region 3 ⟨o8⟩ false) (.seq (.seq (.region 4 ⟨o7⟩ false) (.cond (.tmp 26) (codeAt (bodyOf Try.f189) [.r,.r,.r,.l,.r,.l]) .skip)) (.seq (.region 6 ⟨o6⟩ false) (.seq (.region 7 ⟨o5⟩ false) (.seq (.block 0 (.loop (.seq (.seq (.region 8 ⟨o4⟩ false) (.cond (.tmp 37) .skip (.exit 0))) (.block 1 (.region 9 ⟨o3⟩ true))))) (.seq (.region 10 ⟨o1⟩ false) .ret))))))))
theorem body : Try.f189.body = some code := by kernel_rfl
theorem main (P : PT) : ∀ env H, (En 48 k5 (B10 P)) env H → AW Try.prog T0 code env H (mkQ (ret P) (fun _ _ _ => False) (ret P)) :=
  (r_seq (rB T0_ok (q10 P)) (r_seq (r_seq (rB T0_ok (q9 P)) (r_cond rfl r_none r_skip)) (r_seq (rB T0_ok (q8 P)) (r_seq (r_seq (rB T0_ok (q7 P)) (r_cond rfl r_none r_skip)) (r_seq (rB T0_ok (q6 P)) (r_seq (rB T0_ok (q5 P)) (r_seq (r_block (rL (l2 P) (fun N2 => (r_seq (r_seq (rB T0_ok (q4 P N2)) (r_cond rfl r_skip (r_exit (fun _ _ h => h)))) (r_block (rD T0_ok mixed [(0, false), (1, false), (2, false), (3, false), (4, false), (5, false), (6, false), (7, false), (8, false), (9, false)] (by kernel_rfl) (q3 P N2))))))) (r_seq (rB T0_ok (q1 P)) r_ret))))))))
theorem ac (P : PT) (x0 : Value) (x1 : Int) (H : AHeap) (h : B10 P x0 x1 H) : AC Try.prog T0 189 [x0, (Value.int .i64 x1)] H P :=
  r_fn T0_ok (c := code) (n := 48) Try.func189 body (by kernel_rfl) (main P) (En_mk (x0, x1, ()) (by kernel_rfl) ⟨by kernel_rfl, by kernel_rfl, trivial⟩ h)

end F189
-- (loop.example/g01329/impl.Edge).other
namespace F190
noncomputable def ret (P : PT) : EP := retE T0 12 Try.f190 P
abbrev k0 : Sk := [(1,.i .i64),(2,.x)]
noncomputable def o1 := ob Try.f190 [.r,.l]
def B1 (P : PT) (x1 : Int) (x2 : Nat) (H : AHeap) : Prop :=
  ldI .i64 H x2 0 (fun v1 => ldI .i64 H x2 1 (fun v2 => P (Value.int .i64 (IntKind.i64.wrap ((IntKind.i64.wrap (v1 + v2)) - x1))) H))
theorem q1 (P : PT) : QB Try.prog T0 12 o1 (ret P) k0 (B1 P) := fun _ _ _ _  => by kernel_rfl
abbrev k1 : Sk := [(0,.g [.i,.i]),(1,.i .i64)]
noncomputable def o2 := ob Try.f190 [.l]
def B2 (P : PT) (x0a x0b x1 : Int) (H : AHeap) : Prop :=
  newK H [(Value.int .i64 x0a), (Value.int .i64 x0b)] 67 (fun b1 H2 => B1 P x1 b1 H2)
theorem q2 (P : PT) : QB Try.prog T0 12 o2 (En 12 k0 (B1 P)) k1 (B2 P) := fun _ _ _ _ _  => by kernel_rfl
noncomputable def code : Code := (.seq (.region 0 ⟨o2⟩ false) (.seq (.region 1 ⟨o1⟩ false) .ret))
theorem body : Try.f190.body = some code := by kernel_rfl
theorem main (P : PT) : ∀ env H, (En 12 k1 (B2 P)) env H → AW Try.prog T0 code env H (mkQ (ret P) (fun _ _ _ => False) (ret P)) :=
  (r_seq (rB T0_ok (q2 P)) (r_seq (rB T0_ok (q1 P)) r_ret))
theorem ac (P : PT) (x0a x0b x1 : Int) (H : AHeap) (h : B2 P x0a x0b x1 H) : AC Try.prog T0 190 [(Value.agg ⟨[(Value.int .i64 x0a), (Value.int .i64 x0b)]⟩), (Value.int .i64 x1)] H P :=
  r_fn T0_ok (c := code) (n := 12) Try.func190 body (by kernel_rfl) (main P) (En_mk (x0a, x0b, x1, ()) (by kernel_rfl) ⟨by kernel_rfl, by kernel_rfl, trivial⟩ h)

end F190
-- slices.insertionSortCmpFunc[loop.example/g01329/impl.set]
namespace F191
noncomputable def ret (P : PT) : EP := retE T0 53 Try.f191 P
abbrev k0 : Sk := [(0,.v),(1,.i .i64),(2,.i .i64),(3,.v),(8,.i .i64)]
noncomputable def o2 := ob Try.f191 [.r,.l,.l,.r,.r]
def B2 (P : PT) (N1 : NTy k0 Pr) (x0 : Value) (x1 x2 : Int) (x3 : Value) (x8 : Int) (H : AHeap) : Prop :=
  N1 x0 x1 x2 x3 (IntKind.i64.wrap (x8 + 1)) H
theorem q2 (P : PT) (N1 : NTy k0 Pr) : QB Try.prog T0 53 o2 (En 53 k0 N1) k0 (B2 P N1) := fun _ _ _ _ _ _ _  => by kernel_rfl
abbrev k1 : Sk := [(0,.v),(1,.i .i64),(2,.i .i64),(3,.v),(8,.i .i64),(9,.i .i64)]
noncomputable def o4 := ob Try.f191 [.r,.l,.l,.r,.l,.l,.r,.l,.l,.r,.r]
def B4 (P : PT) (N1 : NTy k0 Pr) (N3 : NTy k1 Pr) (x0 : Value) (x1 x2 : Int) (x3 : Value) (x8 x9 : Int) (H : AHeap) : Prop :=
  N3 x0 x1 x2 x3 x8 (IntKind.i64.wrap (x9 - 1)) H
theorem q4 (P : PT) (N1 : NTy k0 Pr) (N3 : NTy k1 Pr) : QB Try.prog T0 53 o4 (En 53 k1 N3) k1 (B4 P N1 N3) := fun _ _ _ _ _ _ _ _  => by kernel_rfl
noncomputable def o5 := ob Try.f191 [.r,.l,.l,.r,.l,.l,.r,.l,.l,.r,.l,.l]
def B5 (P : PT) (N1 : NTy k0 Pr) (N3 : NTy k1 Pr) (x0 : Value) (x1 x2 : Int) (x3 : Value) (x8 x9 : Int) (H : AHeap) : Prop :=
  idxK x0 (IntKind.i64.wrap (x9 - 1)) 1 (fun b1 o2 => ldI .u64 H b1 o2 (fun v3 => idxK x0 x9 1 (fun b4 o5 => ldI .u64 H b4 o5 (fun v6 => idxK x0 x9 1 (fun b7 o8 => stK H b7 o8 [(Value.int .u64 v3)] (fun H9 => idxK x0 (IntKind.i64.wrap (x9 - 1)) 1 (fun b10 o11 => stK H9 b10 o11 [(Value.int .u64 v6)] (fun H12 => B4 P N1 N3 x0 x1 x2 x3 x8 x9 H12))))))))
theorem q5 (P : PT) (N1 : NTy k0 Pr) (N3 : NTy k1 Pr) : QD Try.prog T0 53 o5 [(0, false), (1, false), (2, false), (3, false), (4, false), (5, false), (6, false), (7, false), (8, false), (9, false), (10, false), (11, false), (12, false), (13, false), (14, false), (15, false), (16, false), (17, false)] (En 53 k1 (B4 P N1 N3)) k1 (B5 P N1 N3) := fun _ _ _ _ _ _ _ _  => by kernel_rfl
noncomputable def o6 := ob Try.f191 [.r,.l,.l,.r,.l,.l,.r,.l,.l,.l,.l]
def B6 (P : PT) (N1 : NTy k0 Pr) (N3 : NTy k1 Pr) (x0 : Value) (x1 x2 : Int) (x3 : Value) (x8 x9 : Int) (H : AHeap) : Prop :=
  pif (decide ((x9 : Int) > x1)) (idxK x0 x9 1 (fun b1 o2 => ldI .u64 H b1 o2 (fun v3 => idxK x0 (IntKind.i64.wrap (x9 - 1)) 1 (fun b4 o5 => ldI .u64 H b4 o5 (fun v6 => callV Try.prog T0 x3 [(Value.int .u64 v3), (Value.int .u64 v6)] H (fun v7 H8 => asI .i64 v7 (fun v9 => pif (decide ((v9 : Int) < 0)) (B5 P N1 N3 x0 x1 x2 x3 x8 x9 H8) (B2 P N1 x0 x1 x2 x3 x8 H8)))))))) (B2 P N1 x0 x1 x2 x3 x8 H)
theorem q6 (P : PT) (N1 : NTy k0 Pr) (N3 : NTy k1 Pr) : QD Try.prog T0 53 o6 [(0, false), (1, false), (2, false), (3, false), (4, false), (5, false), (6, false), (7, false), (8, false), (9, false), (10, false), (11, false), (12, false), (13, false), (14, false), (15, false), (16, false)] (cnd 34 (En 53 k1 (B5 P N1 N3)) (En 53 k0 (B2 P N1))) k1 (B6 P N1 N3) := fun _ _ _ _ _ _ _ _  => by kernel_rfl
def L3 (P : PT) (N1 : NTy k0 Pr) (x0 : Value) (x1 x2 : Int) (x3 : Value) (x8 x9 : Int) (H : AHeap) : Prop :=
  ∃ (I : NTy k1 Pr) (μ : NTy k1 (AHeap → Nat)), I x0 x1 x2 x3 x8 x9 H ∧ ∀ y0 y1 y2 y3 y8 y9 G, I y0 y1 y2 y3 y8 y9 G → B6 P N1 (fun z0 z1 z2 z3 z8 z9 G' => I z0 z1 z2 z3 z8 z9 G' ∧ μ z0 z1 z2 z3 z8 z9 G' < μ y0 y1 y2 y3 y8 y9 G) y0 y1 y2 y3 y8 y9 G
theorem l3 (P : PT) (N1 : NTy k0 Pr) : LQ k1 (L3 P N1) (B6 P N1) := fun ⟨_,_,_,_,_,_,_⟩ _ ⟨I, μ, h0, hI⟩ => ⟨apT _ I, apT _ μ, h0, fun ⟨_,_,_,_,_,_,_⟩ _ h => hI _ _ _ _ _ _ _  h⟩
noncomputable def o7 := ob Try.f191 [.r,.l,.l,.r,.l,.l,.l]
def B7 (P : PT) (N1 : NTy k0 Pr) (x0 : Value) (x1 x2 : Int) (x3 : Value) (x8 : Int) (H : AHeap) : Prop :=
  L3 P N1 x0 x1 x2 x3 x8 x8 H
theorem q7 (P : PT) (N1 : NTy k0 Pr) : QB Try.prog T0 53 o7 (En 53 k1 (L3 P N1)) k0 (B7 P N1) := fun _ _ _ _ _ _ _  => by kernel_rfl
noncomputable def o8 := ob Try.f191 [.r,.l,.l,.l,.l]
def B8 (P : PT) (N1 : NTy k0 Pr) (x0 : Value) (x1 x2 : Int) (x3 : Value) (x8 : Int) (H : AHeap) : Prop :=
  pif (decide ((x8 : Int) < x2)) (B7 P N1 x0 x1 x2 x3 x8 H) (P (Value.tuple ⟨[]⟩) H)
theorem q8 (P : PT) (N1 : NTy k0 Pr) : QB Try.prog T0 53 o8 (cnd 14 (En 53 k0 (B7 P N1)) (ret P)) k0 (B8 P N1) := fun _ _ _ _ _ _ _  => by kernel_rfl
def L1 (P : PT) (x0 : Value) (x1 x2 : Int) (x3 : Value) (x8 : Int) (H : AHeap) : Prop :=
  ∃ (I : NTy k0 Pr) (μ : NTy k0 (AHeap → Nat)), I x0 x1 x2 x3 x8 H ∧ ∀ y0 y1 y2 y3 y8 G, I y0 y1 y2 y3 y8 G → B8 P (fun z0 z1 z2 z3 z8 G' => I z0 z1 z2 z3 z8 G' ∧ μ z0 z1 z2 z3 z8 G' < μ y0 y1 y2 y3 y8 G) y0 y1 y2 y3 y8 G
theorem l1 (P : PT) : LQ k0 (L1 P) (B8 P) := fun ⟨_,_,_,_,_,_⟩ _ ⟨I, μ, h0, hI⟩ => ⟨apT _ I, apT _ μ, h0, fun ⟨_,_,_,_,_,_⟩ _ h => hI _ _ _ _ _ _  h⟩
abbrev k2 : Sk := [(0,.v),(1,.i .i64),(2,.i .i64),(3,.v)]
noncomputable def o9 := ob Try.f191 [.l]
def B9 (P : PT) (x0 : Value) (x1 x2 : Int) (x3 : Value) (H : AHeap) : Prop :=
  L1 P x0 x1 x2 x3 (IntKind.i64.wrap (x1 + 1)) H
theorem q9 (P : PT) : QB Try.prog T0 53 o9 (En 53 k0 (L1 P)) k2 (B9 P) := fun _ _ _ _ _ _  => by kernel_rfl
noncomputable def code : Code := (.seq (.region 0 ⟨o9⟩ false) (.block 0 (.loop (.seq (.seq (.region 1 ⟨o8⟩ false) (.cond (.tmp 14) .skip (.exit 0))) (.seq (.block 1 (.seq (.region 3 ⟨o7⟩ false) (.block 2 (.loop (.seq (.seq (.region 4 ⟨o6⟩ true) (.cond (.tmp 34) .skip (.exit 2))) (.seq (.block 3 (.region 6 ⟨o5⟩ true)) (.region 5 ⟨o4⟩ false))))))) (.region 2 ⟨o2⟩ false))))))
theorem body : Try.f191.body = some code := by kernel_rfl
theorem main (P : PT) : ∀ env H, (En 53 k2 (B9 P)) env H → AW Try.prog T0 code env H (mkQ (ret P) (fun _ _ _ => False) (ret P)) :=
  (r_seq (rB T0_ok (q9 P)) (r_block (rL (l1 P) (fun N1 => (r_seq (r_seq (rB T0_ok (q8 P N1)) (r_cond rfl r_skip (r_exit (fun _ _ h => h)))) (r_seq (r_block (r_seq (rB T0_ok (q7 P N1)) (r_block (rL (l3 P N1) (fun N3 => (r_seq (r_seq (rD T0_ok mixed [(0, false), (1, false), (2, false), (3, false), (4, false), (5, false), (6, false), (7, false), (8, false), (9, false), (10, false), (11, false), (12, false), (13, false), (14, false), (15, false), (16, false)] (by kernel_rfl) (q6 P N1 N3)) (r_cond rfl r_skip (r_exit (fun _ _ h => h)))) (r_seq (r_block (rD T0_ok mixed [(0, false), (1, false), (2, false), (3, false), (4, false), (5, false), (6, false), (7, false), (8, false), (9, false), (10, false), (11, false), (12, false), (13, false), (14, false), (15, false), (16, false), (17, false)] (by kernel_rfl) (q5 P N1 N3))) (rB T0_ok (q4 P N1 N3))))))))) (rB T0_ok (q2 P N1))))))))
theorem ac (P : PT) (x0 : Value) (x1 x2 : Int) (x3 : Value) (H : AHeap) (h : B9 P x0 x1 x2 x3 H) : AC Try.prog T0 191 [x0, (Value.int .i64 x1), (Value.int .i64 x2), x3] H P :=
  r_fn T0_ok (c := code) (n := 53) Try.func191 body (by kernel_rfl) (main P) (En_mk (x0, x1, x2, x3, ()) (by kernel_rfl) ⟨by kernel_rfl, by kernel_rfl, by kernel_rfl, by kernel_rfl, trivial⟩ h)

end F191
-- slices.heapSortCmpFunc[loop.example/g01329/impl.set]
namespace F192
noncomputable def ret (P : PT) : EP := retE T0 60 Try.f192 P
abbrev k0 : Sk := [(0,.v),(3,.v),(8,.i .i64),(9,.i .i64),(12,.i .i64)]
noncomputable def o2 := ob Try.f192 [.r,.r,.r,.r,.r,.l,.l,.r,.r]
def B2 (P : PT) (N1 : NTy k0 Pr) (x0 x3 : Value) (x8 x9 x12 : Int) (H : AHeap) : Prop :=
  N1 x0 x3 x8 x9 (IntKind.i64.wrap (x12 - 1)) H
theorem q2 (P : PT) (N1 : NTy k0 Pr) : QB Try.prog T0 60 o2 (En 60 k0 N1) k0 (B2 P N1) := fun _ _ _ _ _ _ _  => by kernel_rfl
noncomputable def o3 := ob Try.f192 [.r,.r,.r,.r,.r,.l,.l,.r,.l,.l,.r]
def B3 (P : PT) (N1 : NTy k0 Pr) (x0 x3 : Value) (x8 x9 x12 : Int) (H : AHeap) : Prop :=
  AC Try.prog T0 209 [x0, (Value.int .i64 x9), (Value.int .i64 x12), (Value.int .i64 x8), x3] H (fun v1 H2 => asTup v1 (fun l3 => B2 P N1 x0 x3 x8 x9 x12 H2))
theorem q3 (P : PT) (N1 : NTy k0 Pr) : QB Try.prog T0 60 o3 (En 60 k0 (B2 P N1)) k0 (B3 P N1) := fun _ _ _ _ _ _ _  => by kernel_rfl
noncomputable def o4 := ob Try.f192 [.r,.r,.r,.r,.r,.l,.l,.r,.l,.l,.l]
def B4 (P : PT) (N1 : NTy k0 Pr) (x0 x3 : Value) (x8 x9 x12 : Int) (H : AHeap) : Prop :=
  idxK x0 (IntKind.i64.wrap (x8 + x12)) 1 (fun b1 o2 => ldI .u64 H b1 o2 (fun v3 => idxK x0 x8 1 (fun b4 o5 => ldI .u64 H b4 o5 (fun v6 => idxK x0 x8 1 (fun b7 o8 => stK H b7 o8 [(Value.int .u64 v3)] (fun H9 => idxK x0 (IntKind.i64.wrap (x8 + x12)) 1 (fun b10 o11 => stK H9 b10 o11 [(Value.int .u64 v6)] (fun H12 => B3 P N1 x0 x3 x8 x9 x12 H12))))))))
theorem q4 (P : PT) (N1 : NTy k0 Pr) : QD Try.prog T0 60 o4 [(0, false), (1, false), (2, false), (3, false), (4, false), (5, false), (6, false), (7, false), (8, false), (9, false), (10, false), (11, false), (12, false), (13, false), (14, false), (15, false), (16, false), (17, false), (18, false), (19, false)] (En 60 k0 (B3 P N1)) k0 (B4 P N1) := fun _ _ _ _ _ _ _  => by kernel_rfl
noncomputable def o5 := ob Try.f192 [.r,.r,.r,.r,.r,.l,.l,.l,.l]
def B5 (P : PT) (N1 : NTy k0 Pr) (x0 x3 : Value) (x8 x9 x12 : Int) (H : AHeap) : Prop :=
  pif (decide ((x12 : Int) ≥ 0)) (B4 P N1 x0 x3 x8 x9 x12 H) (P (Value.tuple ⟨[]⟩) H)
theorem q5 (P : PT) (N1 : NTy k0 Pr) : QB Try.prog T0 60 o5 (cnd 33 (En 60 k0 (B4 P N1)) (ret P)) k0 (B5 P N1) := fun _ _ _ _ _ _ _  => by kernel_rfl
def L1 (P : PT) (x0 x3 : Value) (x8 x9 x12 : Int) (H : AHeap) : Prop :=
  ∃ (I : NTy k0 Pr) (μ : NTy k0 (AHeap → Nat)), I x0 x3 x8 x9 x12 H ∧ ∀ y0 y3 y8 y9 y12 G, I y0 y3 y8 y9 y12 G → B5 P (fun z0 z3 z8 z9 z12 G' => I z0 z3 z8 z9 z12 G' ∧ μ z0 z3 z8 z9 z12 G' < μ y0 y3 y8 y9 y12 G) y0 y3 y8 y9 y12 G
theorem l1 (P : PT) : LQ k0 (L1 P) (B5 P) := fun ⟨_,_,_,_,_,_⟩ _ ⟨I, μ, h0, hI⟩ => ⟨apT _ I, apT _ μ, h0, fun ⟨_,_,_,_,_,_⟩ _ h => hI _ _ _ _ _ _  h⟩
abbrev k1 : Sk := [(0,.v),(3,.v),(8,.i .i64),(9,.i .i64),(10,.i .i64)]
noncomputable def o6 := ob Try.f192 [.r,.r,.r,.r,.l]
def B6 (P : PT) (x0 x3 : Value) (x8 x9 x10 : Int) (H : AHeap) : Prop :=
  L1 P x0 x3 x8 x9 (IntKind.i64.wrap (x10 - 1)) H
theorem q6 (P : PT) : QB Try.prog T0 60 o6 (En 60 k0 (L1 P)) k1 (B6 P) := fun _ _ _ _ _ _ _  => by kernel_rfl
abbrev k2 : Sk := [(0,.v),(3,.v),(8,.i .i64),(9,.i .i64),(10,.i .i64),(11,.i .i64)]
noncomputable def o8 := ob Try.f192 [.r,.r,.r,.l,.r,.l,.l,.r,.r]
def B8 (P : PT) (N7 : NTy k2 Pr) (x0 x3 : Value) (x8 x9 x10 x11 : Int) (H : AHeap) : Prop :=
  N7 x0 x3 x8 x9 x10 (IntKind.i64.wrap (x11 - 1)) H
theorem q8 (P : PT) (N7 : NTy k2 Pr) : QB Try.prog T0 60 o8 (En 60 k2 N7) k2 (B8 P N7) := fun _ _ _ _ _ _ _ _  => by kernel_rfl
noncomputable def o9 := ob Try.f192 [.r,.r,.r,.l,.r,.l,.l,.r,.l,.l]
def B9 (P : PT) (N7 : NTy k2 Pr) (x0 x3 : Value) (x8 x9 x10 x11 : Int) (H : AHeap) : Prop :=
  AC Try.prog T0 209 [x0, (Value.int .i64 x11), (Value.int .i64 x10), (Value.int .i64 x8), x3] H (fun v1 H2 => asTup v1 (fun l3 => B8 P N7 x0 x3 x8 x9 x10 x11 H2))
theorem q9 (P : PT) (N7 : NTy k2 Pr) : QB Try.prog T0 60 o9 (En 60 k2 (B8 P N7)) k2 (B9 P N7) := fun _ _ _ _ _ _ _ _  => by kernel_rfl
noncomputable def o10 := ob Try.f192 [.r,.r,.r,.l,.r,.l,.l,.l,.l]
def B10 (P : PT) (N7 : NTy k2 Pr) (x0 x3 : Value) (x8 x9 x10 x11 : Int) (H : AHeap) : Prop :=
  pif (decide ((x11 : Int) ≥ 0)) (B9 P N7 x0 x3 x8 x9 x10 x11 H) (B6 P x0 x3 x8 x9 x10 H)
theorem q10 (P : PT) (N7 : NTy k2 Pr) : QB Try.prog T0 60 o10 (cnd 21 (En 60 k2 (B9 P N7)) (En 60 k1 (B6 P))) k2 (B10 P N7) := fun _ _ _ _ _ _ _ _  => by kernel_rfl
def L7 (P : PT) (x0 x3 : Value) (x8 x9 x10 x11 : Int) (H : AHeap) : Prop :=
  ∃ (I : NTy k2 Pr) (μ : NTy k2 (AHeap → Nat)), I x0 x3 x8 x9 x10 x11 H ∧ ∀ y0 y3 y8 y9 y10 y11 G, I y0 y3 y8 y9 y10 y11 G → B10 P (fun z0 z3 z8 z9 z10 z11 G' => I z0 z3 z8 z9 z10 z11 G' ∧ μ z0 z3 z8 z9 z10 z11 G' < μ y0 y3 y8 y9 y10 y11 G) y0 y3 y8 y9 y10 y11 G
theorem l7 (P : PT) : LQ k2 (L7 P) (B10 P) := fun ⟨_,_,_,_,_,_,_⟩ _ ⟨I, μ, h0, hI⟩ => ⟨apT _ I, apT _ μ, h0, fun ⟨_,_,_,_,_,_,_⟩ _ h => hI _ _ _ _ _ _ _  h⟩
noncomputable def o11 := ob Try.f192 [.r,.r,.r,.l,.l]
def B11 (P : PT) (x0 x3 : Value) (x8 x9 x10 : Int) (H : AHeap) : Prop :=
  L7 P x0 x3 x8 x9 x10 (IntKind.i64.wrap (Int.tdiv (IntKind.i64.wrap (x10 - 1)) 2)) H
theorem q11 (P : PT) : QB Try.prog T0 60 o11 (En 60 k2 (L7 P)) k1 (B11 P) := fun _ _ _ _ _ _ _  => by kernel_rfl
abbrev k3 : Sk := [(0,.v),(1,.i .i64),(2,.i .i64),(3,.v),(8,.i .i64),(9,.i .i64)]
noncomputable def o12 := ob Try.f192 [.r,.r,.l]
def B12 (P : PT) (x0 : Value) (x1 x2 : Int) (x3 : Value) (x8 x9 : Int) (H : AHeap) : Prop :=
  B11 P x0 x3 x8 x9 (IntKind.i64.wrap (x2 - x1)) H
theorem q12 (P : PT) : QB Try.prog T0 60 o12 (En 60 k1 (B11 P)) k3 (B12 P) := fun _ _ _ _ _ _ _ _  => by kernel_rfl
abbrev k4 : Sk := [(0,.v),(1,.i .i64),(2,.i .i64),(3,.v),(8,.i .i64)]
noncomputable def o13 := ob Try.f192 [.r,.l]
def B13 (P : PT) (x0 : Value) (x1 x2 : Int) (x3 : Value) (x8 : Int) (H : AHeap) : Prop :=
  B12 P x0 x1 x2 x3 x8 0 H
theorem q13 (P : PT) : QB Try.prog T0 60 o13 (En 60 k3 (B12 P)) k4 (B13 P) := fun _ _ _ _ _ _ _  => by kernel_rfl
abbrev k5 : Sk := [(0,.v),(1,.i .i64),(2,.i .i64),(3,.v)]
noncomputable def o14 := ob Try.f192 [.l]
def B14 (P : PT) (x0 : Value) (x1 x2 : Int) (x3 : Value) (H : AHeap) : Prop :=
  B13 P x0 x1 x2 x3 x1 H
theorem q14 (P : PT) : QB Try.prog T0 60 o14 (En 60 k4 (B13 P)) k5 (B14 P) := fun _ _ _ _ _ _  => by kernel_rfl
noncomputable def code : Code := (.seq (.region 0 ⟨o14⟩ false) (.seq (.region 1 ⟨o13⟩ false) (.seq (.region 2 ⟨o12⟩ false) (.seq (.seq (.region 3 ⟨o11⟩ false) (.block 0 (.loop (.seq (.seq (.region 4 ⟨o10⟩ false) (.cond (.tmp 21) .skip (.exit 0))) (.seq (.block 1 (.region 6 ⟨o9⟩ false)) (.region 5 ⟨o8⟩ false)))))) (.seq (.region 7 ⟨o6⟩ false) (.block 2 (.loop (.seq (.seq (.region 8 ⟨o5⟩ false) (.cond (.tmp 33) .skip (.exit 2))) (.seq (.block 3 (.seq (.region 10 ⟨o4⟩ true) (.region 11 ⟨o3⟩ false))) (.region 9 ⟨o2⟩ false))))))))))
theorem body : Try.f192.body = some code := by kernel_rfl
theorem main (P : PT) : ∀ env H, (En 60 k5 (B14 P)) env H → AW Try.prog T0 code env H (mkQ (ret P) (fun _ _ _ => False) (ret P)) :=
  (r_seq (rB T0_ok (q14 P)) (r_seq (rB T0_ok (q13 P)) (r_seq (rB T0_ok (q12 P)) (r_seq (r_seq (rB T0_ok (q11 P)) (r_block (rL (l7 P) (fun N7 => (r_seq (r_seq (rB T0_ok (q10 P N7)) (r_cond rfl r_skip (r_exit (fun _ _ h => h)))) (r_seq (r_block (rB T0_ok (q9 P N7))) (rB T0_ok (q8 P N7)))))))) (r_seq (rB T0_ok (q6 P)) (r_block (rL (l1 P) (fun N1 => (r_seq (r_seq (rB T0_ok (q5 P N1)) (r_cond rfl r_skip (r_exit (fun _ _ h => h)))) (r_seq (r_block (r_seq (rD T0_ok mixed [(0, false), (1, false), (2, false), (3, false), (4, false), (5, false), (6, false), (7, false), (8, false), (9, false), (10, false), (11, false), (12, false), (13, false), (14, false), (15, false), (16, false), (17, false), (18, false), (19, false)] (by kernel_rfl) (q4 P N1)) (rB T0_ok (q3 P N1)))) (rB T0_ok (q2 P N1))))))))))))
theorem ac (P : PT) (x0 : Value) (x1 x2 : Int) (x3 : Value) (H : AHeap) (h : B14 P x0 x1 x2 x3 H) : AC Try.prog T0 192 [x0, (Value.int .i64 x1), (Value.int .i64 x2), x3] H P :=
  r_fn T0_ok (c := code) (n := 60) Try.func192 body (by kernel_rfl) (main P) (En_mk (x0, x1, x2, x3, ()) (by kernel_rfl) ⟨by kernel_rfl, by kernel_rfl, by kernel_rfl, by kernel_rfl, trivial⟩ h)

end F192
-- slices.breakPatternsCmpFunc[loop.example/g01329/impl.set]
namespace F193
noncomputable def ret (P : PT) : EP := retE T0 67 Try.f193 P
abbrev k0 : Sk := [(0,.v),(1,.i .i64),(8,.i .i64),(9,.x),(10,.i .u64),(11,.i .i64)]
noncomputable def o2 := ob Try.f193 [.r,.r,.l,.r,.r,.r,.l,.l,.r,.r]
def B2 (P : PT) (N1 : NTy k0 Pr) (x0 : Value) (x1 x8 : Int) (x9 : Nat) (x10 x11 : Int) (H : AHeap) : Prop :=
  N1 x0 x1 x8 x9 x10 (IntKind.i64.wrap (x11 + 1)) H
theorem q2 (P : PT) (N1 : NTy k0 Pr) : QB Try.prog T0 67 o2 (En 67 k0 N1) k0 (B2 P N1) := fun _ _ _ _ _ _ _ _  => by kernel_rfl
abbrev k1 : Sk := [(0,.v),(1,.i .i64),(8,.i .i64),(9,.x),(10,.i .u64),(11,.i .i64),(12,.i .i64)]
noncomputable def o3 := ob Try.f193 [.r,.r,.l,.r,.r,.r,.l,.l,.r,.l,.l,.r,.r]
def B3 (P : PT) (N1 : NTy k0 Pr) (x0 : Value) (x1 x8 : Int) (x9 : Nat) (x10 x11 x12 : Int) (H : AHeap) : Prop :=
  idxK x0 (IntKind.i64.wrap (x1 + x12)) 1 (fun b1 o2 => ldI .u64 H b1 o2 (fun v3 => idxK x0 x11 1 (fun b4 o5 => ldI .u64 H b4 o5 (fun v6 => idxK x0 x11 1 (fun b7 o8 => stK H b7 o8 [(Value.int .u64 v3)] (fun H9 => idxK x0 (IntKind.i64.wrap (x1 + x12)) 1 (fun b10 o11 => stK H9 b10 o11 [(Value.int .u64 v6)] (fun H12 => B2 P N1 x0 x1 x8 x9 x10 x11 H12))))))))
theorem q3 (P : PT) (N1 : NTy k0 Pr) : QD Try.prog T0 67 o3 [(0, false), (1, false), (2, false), (3, false), (4, false), (5, false), (6, false), (7, false), (8, false), (9, false), (10, false), (11, false), (12, false), (13, false), (14, false), (15, false), (16, false), (17, false), (18, false), (19, false)] (En 67 k0 (B2 P N1)) k1 (B3 P N1) := fun _ _ _ _ _ _ _ _ _  => by kernel_rfl
noncomputable def o4 := ob Try.f193 [.r,.r,.l,.r,.r,.r,.l,.l,.r,.l,.l,.r,.l,.r,.l]
def B4 (P : PT) (N1 : NTy k0 Pr) (x0 : Value) (x1 x8 : Int) (x9 : Nat) (x10 x11 x12 : Int) (H : AHeap) : Prop :=
  B3 P N1 x0 x1 x8 x9 x10 x11 (IntKind.i64.wrap (x12 - x8)) H
theorem q4 (P : PT) (N1 : NTy k0 Pr) : QB Try.prog T0 67 o4 (En 67 k1 (B3 P N1)) k1 (B4 P N1) := fun _ _ _ _ _ _ _ _ _  => by kernel_rfl
noncomputable def o5 := ob Try.f193 [.r,.r,.l,.r,.r,.r,.l,.l,.r,.l,.l,.r,.l,.l]
def B5 (P : PT) (N1 : NTy k0 Pr) (x0 : Value) (x1 x8 : Int) (x9 : Nat) (x10 x11 x12 : Int) (H : AHeap) : Prop :=
  pif (decide ((x12 : Int) ≥ x8)) (B4 P N1 x0 x1 x8 x9 x10 x11 x12 H) (B3 P N1 x0 x1 x8 x9 x10 x11 x12 H)
theorem q5 (P : PT) (N1 : NTy k0 Pr) : QB Try.prog T0 67 o5 (cnd 45 (En 67 k1 (B4 P N1)) (En 67 k1 (B3 P N1))) k1 (B5 P N1) := fun _ _ _ _ _ _ _ _ _  => by kernel_rfl
noncomputable def o6 := ob Try.f193 [.r,.r,.l,.r,.r,.r,.l,.l,.r,.l,.l,.l]
def B6 (P : PT) (N1 : NTy k0 Pr) (x0 : Value) (x1 x8 : Int) (x9 : Nat) (x10 x11 : Int) (H : AHeap) : Prop :=
  AC Try.prog T0 185 [(Value.pointer (some ⟨x9, 0, none⟩))] H (fun v1 H2 => asI .u64 v1 (fun v3 => B5 P N1 x0 x1 x8 x9 x10 x11 (IntKind.i64.wrap (IntKind.u64.wrap (BitVec.ofInt 64 v3 &&& BitVec.ofInt 64 (IntKind.u64.wrap (x10 - 1))).toNat)) H2))
theorem q6 (P : PT) (N1 : NTy k0 Pr) : QB Try.prog T0 67 o6 (En 67 k1 (B5 P N1)) k0 (B6 P N1) := fun _ _ _ _ _ _ _ _  => by kernel_rfl
noncomputable def o7 := ob Try.f193 [.r,.r,.l,.r,.r,.r,.l,.l,.l,.l]
def B7 (P : PT) (N1 : NTy k0 Pr) (x0 : Value) (x1 x8 : Int) (x9 : Nat) (x10 x11 : Int) (H : AHeap) : Prop :=
  pif (decide ((x11 : Int) ≤ (IntKind.i64.wrap ((IntKind.i64.wrap (x1 + (IntKind.i64.wrap ((IntKind.i64.wrap (Int.tdiv x8 4)) * 2)))) + 1)))) (B6 P N1 x0 x1 x8 x9 x10 x11 H) (P (Value.tuple ⟨[]⟩) H)
theorem q7 (P : PT) (N1 : NTy k0 Pr) : QB Try.prog T0 67 o7 (cnd 35 (En 67 k0 (B6 P N1)) (ret P)) k0 (B7 P N1) := fun _ _ _ _ _ _ _ _  => by kernel_rfl
def L1 (P : PT) (x0 : Value) (x1 x8 : Int) (x9 : Nat) (x10 x11 : Int) (H : AHeap) : Prop :=
  ∃ (I : NTy k0 Pr) (μ : NTy k0 (AHeap → Nat)), I x0 x1 x8 x9 x10 x11 H ∧ ∀ y0 y1 y8 y9 y10 y11 G, I y0 y1 y8 y9 y10 y11 G → B7 P (fun z0 z1 z8 z9 z10 z11 G' => I z0 z1 z8 z9 z10 z11 G' ∧ μ z0 z1 z8 z9 z10 z11 G' < μ y0 y1 y8 y9 y10 y11 G) y0 y1 y8 y9 y10 y11 G
theorem l1 (P : PT) : LQ k0 (L1 P) (B7 P) := fun ⟨_,_,_,_,_,_,_⟩ _ ⟨I, μ, h0, hI⟩ => ⟨apT _ I, apT _ μ, h0, fun ⟨_,_,_,_,_,_,_⟩ _ h => hI _ _ _ _ _ _ _  h⟩
abbrev k2 : Sk := [(0,.v),(1,.i .i64),(8,.i .i64),(9,.x),(10,.i .u64)]
noncomputable def o8 := ob Try.f193 [.r,.r,.l,.r,.r,.l]
def B8 (P : PT) (x0 : Value) (x1 x8 : Int) (x9 : Nat) (x10 : Int) (H : AHeap) : Prop :=
  L1 P x0 x1 x8 x9 x10 (IntKind.i64.wrap ((IntKind.i64.wrap (x1 + (IntKind.i64.wrap ((IntKind.i64.wrap (Int.tdiv x8 4)) * 2)))) - 1)) H
theorem q8 (P : PT) : QB Try.prog T0 67 o8 (En 67 k0 (L1 P)) k2 (B8 P) := fun _ _ _ _ _ _ _  => by kernel_rfl
abbrev k3 : Sk := [(0,.v),(1,.i .i64),(8,.i .i64),(9,.x)]
noncomputable def o9 := ob Try.f193 [.r,.r,.l,.r,.l]
def B9 (P : PT) (x0 : Value) (x1 x8 : Int) (x9 : Nat) (H : AHeap) : Prop :=
  AC Try.prog T0 184 [(Value.int .i64 x8)] H (fun v1 H2 => asI .u64 v1 (fun v3 => B8 P x0 x1 x8 x9 v3 H2))
theorem q9 (P : PT) : QB Try.prog T0 67 o9 (En 67 k2 (B8 P)) k3 (B9 P) := fun _ _ _ _ _ _  => by kernel_rfl
abbrev k4 : Sk := [(0,.v),(1,.i .i64),(8,.i .i64)]
noncomputable def o10 := ob Try.f193 [.r,.r,.l,.l]
def B10 (P : PT) (x0 : Value) (x1 x8 : Int) (H : AHeap) : Prop :=
  newK H [(Value.int .u64 0)] 177 (fun b1 H2 => stK H2 b1 0 [(Value.int .u64 (IntKind.u64.wrap x8))] (fun H3 => B9 P x0 x1 x8 b1 H3))
theorem q10 (P : PT) : QB Try.prog T0 67 o10 (En 67 k3 (B9 P)) k4 (B10 P) := fun _ _ _ _ _  => by kernel_rfl
noncomputable def o11 := ob Try.f193 [.r,.l]
def B11 (P : PT) (x0 : Value) (x1 x8 : Int) (H : AHeap) : Prop :=
  pif (decide ((x8 : Int) ≥ 8)) (B10 P x0 x1 x8 H) (P (Value.tuple ⟨[]⟩) H)
theorem q11 (P : PT) : QB Try.prog T0 67 o11 (cnd 17 (En 67 k4 (B10 P)) (ret P)) k4 (B11 P) := fun _ _ _ _ _  => by kernel_rfl
abbrev k5 : Sk := [(0,.v),(1,.i .i64),(2,.i .i64)]
noncomputable def o12 := ob Try.f193 [.l]
def B12 (P : PT) (x0 : Value) (x1 x2 : Int) (H : AHeap) : Prop :=
  B11 P x0 x1 (IntKind.i64.wrap (x2 - x1)) H
theorem q12 (P : PT) : QB Try.prog T0 67 o12 (En 67 k4 (B11 P)) k5 (B12 P) := fun _ _ _ _ _  => by kernel_rfl
noncomputable def code : Code := (.seq (.region 0 ⟨o12⟩ false) (.seq (.region 1 ⟨o11⟩ false) (.cond (.tmp 17) (.seq (.region 2 ⟨o10⟩ false) (.seq (.region 3 ⟨o9⟩ false) (.seq (.region 4 ⟨o8⟩ false) (.block 0 (.loop (.seq (.seq (.region 5 ⟨o7⟩ false) (.cond (.tmp 35) .skip (.exit 0))) (.seq (.block 1 (.seq (.region 7 ⟨o6⟩ false) (.seq (.seq (.region 8 ⟨o5⟩ false) (.cond (.tmp 45) (.region 9 ⟨o4⟩ false) .skip)) (.region 10 ⟨o3⟩ true)))) (.region 6 ⟨o2⟩ false)))))))) .skip)))
theorem body : Try.f193.body = some code := by kernel_rfl
theorem main (P : PT) : ∀ env H, (En 67 k5 (B12 P)) env H → AW Try.prog T0 code env H (mkQ (ret P) (fun _ _ _ => False) (ret P)) :=
  (r_seq (rB T0_ok (q12 P)) (r_seq (rB T0_ok (q11 P)) (r_cond rfl (r_seq (rB T0_ok (q10 P)) (r_seq (rB T0_ok (q9 P)) (r_seq (rB T0_ok (q8 P)) (r_block (rL (l1 P) (fun N1 => (r_seq (r_seq (rB T0_ok (q7 P N1)) (r_cond rfl r_skip (r_exit (fun _ _ h => h)))) (r_seq (r_block (r_seq (rB T0_ok (q6 P N1)) (r_seq (r_seq (rB T0_ok (q5 P N1)) (r_cond rfl (rB T0_ok (q4 P N1)) r_skip)) (rD T0_ok mixed [(0, false), (1, false), (2, false), (3, false), (4, false), (5, false), (6, false), (7, false), (8, false), (9, false), (10, false), (11, false), (12, false), (13, false), (14, false), (15, false), (16, false), (17, false), (18, false), (19, false)] (by kernel_rfl) (q3 P N1))))) (rB T0_ok (q2 P N1)))))))))) r_skip)))
theorem ac (P : PT) (x0 : Value) (x1 x2 : Int) (x3 : Value) (H : AHeap) (h : B12 P x0 x1 x2 H) : AC Try.prog T0 193 [x0, (Value.int .i64 x1), (Value.int .i64 x2), x3] H P :=
  r_fn T0_ok (c := code) (n := 67) Try.func193 body (by kernel_rfl) (main P) (En_mk (x0, x1, x2, ()) (by kernel_rfl) ⟨by kernel_rfl, by kernel_rfl, by kernel_rfl, trivial⟩ h)

end F193
-- slices.choosePivotCmpFunc[loop.example/g01329/impl.set]
namespace F194
noncomputable def ret (P : PT) : EP := retE T0 63 Try.f194 P
abbrev k0 : Sk := [(13,.i .i64)]
noncomputable def o1 := ob Try.f194 [.r,.r,.r,.r,.r,.r,.r,.r,.l,.r,.l,.l]
def B1 (P : PT) (x13 : Int) (H : AHeap) : Prop :=
  P (Value.tuple ⟨[(Value.int .i64 x13), (Value.int .i64 1)]⟩) H
theorem q1 (P : PT) : QB Try.prog T0 63 o1 (ret P) k0 (B1 P) := fun _ _ _  => by kernel_rfl
noncomputable def o2 := ob Try.f194 [.r,.r,.r,.r,.r,.r,.r,.r,.l,.r,.r,.r,.l,.l]
def B2 (P : PT) (x13 : Int) (H : AHeap) : Prop :=
  P (Value.tuple ⟨[(Value.int .i64 x13), (Value.int .i64 2)]⟩) H
theorem q2 (P : PT) : QB Try.prog T0 63 o2 (ret P) k0 (B2 P) := fun _ _ _  => by kernel_rfl
noncomputable def o3 := ob Try.f194 [.r,.r,.r,.r,.r,.r,.r,.r,.l,.r,.r,.r,.r,.l]
def B3 (P : PT) (x13 : Int) (H : AHeap) : Prop :=
  P (Value.tuple ⟨[(Value.int .i64 x13), (Value.int .i64 0)]⟩) H
theorem q3 (P : PT) : QB Try.prog T0 63 o3 (ret P) k0 (B3 P) := fun _ _ _  => by kernel_rfl
abbrev k1 : Sk := [(13,.i .i64),(55,.i .i64)]
noncomputable def o4 := ob Try.f194 [.r,.r,.r,.r,.r,.r,.r,.r,.l,.r,.r,.l]
def B4 (P : PT) (x13 x55 : Int) (H : AHeap) : Prop :=
  pif ((x55 : Int) == 12) (B2 P x13 H) (B3 P x13 H)
theorem q4 (P : PT) : QB Try.prog T0 63 o4 (cnd 60 (En 63 k0 (B2 P)) (En 63 k0 (B3 P))) k1 (B4 P) := fun _ _ _ _  => by kernel_rfl
noncomputable def o5 := ob Try.f194 [.r,.r,.r,.r,.r,.r,.r,.r,.l,.l]
def B5 (P : PT) (x13 x55 : Int) (H : AHeap) : Prop :=
  pif ((x55 : Int) == 0) (B1 P x13 H) (B4 P x13 x55 H)
theorem q5 (P : PT) : QB Try.prog T0 63 o5 (cnd 57 (En 63 k0 (B1 P)) (En 63 k1 (B4 P))) k1 (B5 P) := fun _ _ _ _  => by kernel_rfl
abbrev k2 : Sk := [(11,.x),(13,.i .i64)]
noncomputable def o6 := ob Try.f194 [.r,.r,.r,.r,.r,.r,.r,.l]
def B6 (P : PT) (x11 : Nat) (x13 : Int) (H : AHeap) : Prop :=
  ldI .i64 H x11 0 (fun v1 => B5 P x13 v1 H)
theorem q6 (P : PT) : QB Try.prog T0 63 o6 (En 63 k1 (B5 P)) k2 (B6 P) := fun _ _ _ _  => by kernel_rfl
abbrev k3 : Sk := [(0,.v),(3,.v),(11,.x),(12,.i .i64),(13,.i .i64),(14,.i .i64)]
noncomputable def o7 := ob Try.f194 [.r,.r,.r,.r,.r,.r,.l,.r,.l,.r]
def B7 (P : PT) (x0 x3 : Value) (x11 : Nat) (x12 x13 x14 : Int) (H : AHeap) : Prop :=
  AC Try.prog T0 211 [x0, (Value.int .i64 x12), (Value.int .i64 x13), (Value.int .i64 x14), (Value.pointer (some ⟨x11, 0, none⟩)), x3] H (fun v1 H2 => asI .i64 v1 (fun v3 => B6 P x11 v3 H2))
theorem q7 (P : PT) : QB Try.prog T0 63 o7 (En 63 k2 (B6 P)) k3 (B7 P) := fun _ _ _ _ _ _ _ _  => by kernel_rfl
noncomputable def o8 := ob Try.f194 [.r,.r,.r,.r,.r,.r,.l,.r,.l,.l,.r,.l,.r,.r]
def B8 (P : PT) (x0 x3 : Value) (x11 : Nat) (x12 x13 x14 : Int) (H : AHeap) : Prop :=
  AC Try.prog T0 210 [x0, (Value.int .i64 x14), (Value.pointer (some ⟨x11, 0, none⟩)), x3] H (fun v1 H2 => asI .i64 v1 (fun v3 => B7 P x0 x3 x11 x12 x13 v3 H2))
theorem q8 (P : PT) : QB Try.prog T0 63 o8 (En 63 k3 (B7 P)) k3 (B8 P) := fun _ _ _ _ _ _ _ _  => by kernel_rfl
noncomputable def o9 := ob Try.f194 [.r,.r,.r,.r,.r,.r,.l,.r,.l,.l,.r,.l,.r,.l]
def B9 (P : PT) (x0 x3 : Value) (x11 : Nat) (x12 x13 x14 : Int) (H : AHeap) : Prop :=
  AC Try.prog T0 210 [x0, (Value.int .i64 x13), (Value.pointer (some ⟨x11, 0, none⟩)), x3] H (fun v1 H2 => asI .i64 v1 (fun v3 => B8 P x0 x3 x11 x12 v3 x14 H2))
theorem q9 (P : PT) : QB Try.prog T0 63 o9 (En 63 k3 (B8 P)) k3 (B9 P) := fun _ _ _ _ _ _ _ _  => by kernel_rfl
noncomputable def o10 := ob Try.f194 [.r,.r,.r,.r,.r,.r,.l,.r,.l,.l,.r,.l,.l]
def B10 (P : PT) (x0 x3 : Value) (x11 : Nat) (x12 x13 x14 : Int) (H : AHeap) : Prop :=
  AC Try.prog T0 210 [x0, (Value.int .i64 x12), (Value.pointer (some ⟨x11, 0, none⟩)), x3] H (fun v1 H2 => asI .i64 v1 (fun v3 => B9 P x0 x3 x11 v3 x13 x14 H2))
theorem q10 (P : PT) : QB Try.prog T0 63 o10 (En 63 k3 (B9 P)) k3 (B10 P) := fun _ _ _ _ _ _ _ _  => by kernel_rfl
abbrev k4 : Sk := [(0,.v),(3,.v),(10,.i .i64),(11,.x),(12,.i .i64),(13,.i .i64),(14,.i .i64)]
noncomputable def o11 := ob Try.f194 [.r,.r,.r,.r,.r,.r,.l,.r,.l,.l,.l]
def B11 (P : PT) (x0 x3 : Value) (x10 : Int) (x11 : Nat) (x12 x13 x14 : Int) (H : AHeap) : Prop :=
  pif (decide ((x10 : Int) ≥ 50)) (B10 P x0 x3 x11 x12 x13 x14 H) (B7 P x0 x3 x11 x12 x13 x14 H)
theorem q11 (P : PT) : QB Try.prog T0 63 o11 (cnd 36 (En 63 k3 (B10 P)) (En 63 k3 (B7 P))) k4 (B11 P) := fun _ _ _ _ _ _ _ _ _  => by kernel_rfl
noncomputable def o12 := ob Try.f194 [.r,.r,.r,.r,.r,.r,.l,.l]
def B12 (P : PT) (x0 x3 : Value) (x10 : Int) (x11 : Nat) (x12 x13 x14 : Int) (H : AHeap) : Prop :=
  pif (decide ((x10 : Int) ≥ 8)) (B11 P x0 x3 x10 x11 x12 x13 x14 H) (B6 P x11 x13 H)
theorem q12 (P : PT) : QB Try.prog T0 63 o12 (cnd 34 (En 63 k4 (B11 P)) (En 63 k2 (B6 P))) k4 (B12 P) := fun _ _ _ _ _ _ _ _ _  => by kernel_rfl
abbrev k5 : Sk := [(0,.v),(1,.i .i64),(3,.v),(10,.i .i64),(11,.x),(12,.i .i64),(13,.i .i64)]
noncomputable def o13 := ob Try.f194 [.r,.r,.r,.r,.r,.l]
def B13 (P : PT) (x0 : Value) (x1 : Int) (x3 : Value) (x10 : Int) (x11 : Nat) (x12 x13 : Int) (H : AHeap) : Prop :=
  B12 P x0 x3 x10 x11 x12 x13 (IntKind.i64.wrap (x1 + (IntKind.i64.wrap ((IntKind.i64.wrap (Int.tdiv x10 4)) * 3)))) H
theorem q13 (P : PT) : QB Try.prog T0 63 o13 (En 63 k4 (B12 P)) k5 (B13 P) := fun _ _ _ _ _ _ _ _ _  => by kernel_rfl
abbrev k6 : Sk := [(0,.v),(1,.i .i64),(3,.v),(10,.i .i64),(11,.x),(12,.i .i64)]
noncomputable def o14 := ob Try.f194 [.r,.r,.r,.r,.l]
def B14 (P : PT) (x0 : Value) (x1 : Int) (x3 : Value) (x10 : Int) (x11 : Nat) (x12 : Int) (H : AHeap) : Prop :=
  B13 P x0 x1 x3 x10 x11 x12 (IntKind.i64.wrap (x1 + (IntKind.i64.wrap ((IntKind.i64.wrap (Int.tdiv x10 4)) * 2)))) H
theorem q14 (P : PT) : QB Try.prog T0 63 o14 (En 63 k5 (B13 P)) k6 (B14 P) := fun _ _ _ _ _ _ _ _  => by kernel_rfl
abbrev k7 : Sk := [(0,.v),(1,.i .i64),(3,.v),(10,.i .i64),(11,.x)]
noncomputable def o15 := ob Try.f194 [.r,.r,.r,.l]
def B15 (P : PT) (x0 : Value) (x1 : Int) (x3 : Value) (x10 : Int) (x11 : Nat) (H : AHeap) : Prop :=
  B14 P x0 x1 x3 x10 x11 (IntKind.i64.wrap (x1 + (IntKind.i64.wrap ((IntKind.i64.wrap (Int.tdiv x10 4)) * 1)))) H
theorem q15 (P : PT) : QB Try.prog T0 63 o15 (En 63 k6 (B14 P)) k7 (B15 P) := fun _ _ _ _ _ _ _  => by kernel_rfl
abbrev k8 : Sk := [(0,.v),(1,.i .i64),(3,.v),(10,.i .i64)]
noncomputable def o16 := ob Try.f194 [.r,.r,.l]
def B16 (P : PT) (x0 : Value) (x1 : Int) (x3 : Value) (x10 : Int) (H : AHeap) : Prop :=
  newK H [(Value.int .i64 0)] 3 (fun b1 H2 => B15 P x0 x1 x3 x10 b1 H2)
theorem q16 (P : PT) : QB Try.prog T0 63 o16 (En 63 k7 (B15 P)) k8 (B16 P) := fun _ _ _ _ _ _  => by kernel_rfl
abbrev k9 : Sk := [(0,.v),(1,.i .i64),(2,.i .i64),(3,.v)]
noncomputable def o17 := ob Try.f194 [.r,.l]
def B17 (P : PT) (x0 : Value) (x1 x2 : Int) (x3 : Value) (H : AHeap) : Prop :=
  B16 P x0 x1 x3 (IntKind.i64.wrap (x2 - x1)) H
theorem q17 (P : PT) : QB Try.prog T0 63 o17 (En 63 k8 (B16 P)) k9 (B17 P) := fun _ _ _ _ _ _  => by kernel_rfl
noncomputable def o18 := ob Try.f194 [.l]
def B18 (P : PT) (x0 : Value) (x1 x2 : Int) (x3 : Value) (H : AHeap) : Prop :=
  B17 P x0 x1 x2 x3 H
theorem q18 (P : PT) : QB Try.prog T0 63 o18 (En 63 k9 (B17 P)) k9 (B18 P) := fun _ _ _ _ _ _  => by kernel_rfl
noncomputable def code : Code := (.seq (.region 0 ⟨o18⟩ false) (.seq (.region 1 ⟨o17⟩ false) (.seq (.region 2 ⟨o16⟩ false) (.seq (.region 3 ⟨o15⟩ false) (.seq (.region 4 ⟨o14⟩ false) (.seq (.region 5 ⟨o13⟩ false) (.seq (.seq (.region 6 ⟨o12⟩ false) (.cond (.tmp 34) (.seq (.seq (.region 7 ⟨o11⟩ false) (.cond (.tmp 36) (.seq (.region 8 ⟨o10⟩ false) (.seq (.region 9 ⟨o9⟩ false) (.region 10 ⟨o8⟩ false))) .skip)) (.region 11 ⟨o7⟩ false)) .skip)) (.seq (.region 12 ⟨o6⟩ false) (.block 0 (.seq (.region 14 ⟨o5⟩ false) (.cond (.tmp 57) (.seq (.region 15 ⟨o1⟩ false) .ret) (.seq (.region 16 ⟨o4⟩ false) (.cond (.tmp 60) (.seq (.region 17 ⟨o2⟩ false) .ret) (.seq (.region 13 ⟨o3⟩ false) .ret))))))))))))))
theorem body : Try.f194.body = some code := by kernel_rfl
theorem main (P : PT) : ∀ env H, (En 63 k9 (B18 P)) env H → AW Try.prog T0 code env H (mkQ (ret P) (fun _ _ _ => False) (ret P)) :=
  (r_seq (rB T0_ok (q18 P)) (r_seq (rB T0_ok (q17 P)) (r_seq (rB T0_ok (q16 P)) (r_seq (rB T0_ok (q15 P)) (r_seq (rB T0_ok (q14 P)) (r_seq (rB T0_ok (q13 P)) (r_seq (r_seq (rB T0_ok (q12 P)) (r_cond rfl (r_seq (r_seq (rB T0_ok (q11 P)) (r_cond rfl (r_seq (rB T0_ok (q10 P)) (r_seq (rB T0_ok (q9 P)) (rB T0_ok (q8 P)))) r_skip)) (rB T0_ok (q7 P))) r_skip)) (r_seq (rB T0_ok (q6 P)) (r_block (r_seq (rB T0_ok (q5 P)) (r_cond rfl (r_seq (rB T0_ok (q1 P)) r_ret) (r_seq (rB T0_ok (q4 P)) (r_cond rfl (r_seq (rB T0_ok (q2 P)) r_ret) (r_seq (rB T0_ok (q3 P)) r_ret))))))))))))))
theorem ac (P : PT) (x0 : Value) (x1 x2 : Int) (x3 : Value) (H : AHeap) (h : B18 P x0 x1 x2 x3 H) : AC Try.prog T0 194 [x0, (Value.int .i64 x1), (Value.int .i64 x2), x3] H P :=
  r_fn T0_ok (c := code) (n := 63) Try.func194 body (by kernel_rfl) (main P) (En_mk (x0, x1, x2, x3, ()) (by kernel_rfl) ⟨by kernel_rfl, by kernel_rfl, by kernel_rfl, by kernel_rfl, trivial⟩ h)

end F194
-- slices.reverseRangeCmpFunc[loop.example/g01329/impl.set]
namespace F195
noncomputable def ret (P : PT) : EP := retE T0 34 Try.f195 P
abbrev k0 : Sk := [(0,.v),(8,.i .i64),(9,.i .i64)]
noncomputable def o2 := ob Try.f195 [.r,.r,.l,.l,.r,.l,.r,.r]
def B2 (P : PT) (N1 : NTy k0 Pr) (x0 : Value) (x8 x9 : Int) (H : AHeap) : Prop :=
  N1 x0 x8 (IntKind.i64.wrap (x9 - 1)) H
theorem q2 (P : PT) (N1 : NTy k0 Pr) : QB Try.prog T0 34 o2 (En 34 k0 N1) k0 (B2 P N1) := fun _ _ _ _ _  => by kernel_rfl
noncomputable def o3 := ob Try.f195 [.r,.r,.l,.l,.r,.l,.r,.l]
def B3 (P : PT) (N1 : NTy k0 Pr) (x0 : Value) (x8 x9 : Int) (H : AHeap) : Prop :=
  B2 P N1 x0 (IntKind.i64.wrap (x8 + 1)) x9 H
theorem q3 (P : PT) (N1 : NTy k0 Pr) : QB Try.prog T0 34 o3 (En 34 k0 (B2 P N1)) k0 (B3 P N1) := fun _ _ _ _ _  => by kernel_rfl
noncomputable def o4 := ob Try.f195 [.r,.r,.l,.l,.r,.l,.l]
def B4 (P : PT) (N1 : NTy k0 Pr) (x0 : Value) (x8 x9 : Int) (H : AHeap) : Prop :=
  idxK x0 x9 1 (fun b1 o2 => ldI .u64 H b1 o2 (fun v3 => idxK x0 x8 1 (fun b4 o5 => ldI .u64 H b4 o5 (fun v6 => idxK x0 x8 1 (fun b7 o8 => stK H b7 o8 [(Value.int .u64 v3)] (fun H9 => idxK x0 x9 1 (fun b10 o11 => stK H9 b10 o11 [(Value.int .u64 v6)] (fun H12 => B3 P N1 x0 x8 x9 H12))))))))
theorem q4 (P : PT) (N1 : NTy k0 Pr) : QD Try.prog T0 34 o4 [(0, false), (1, false), (2, false), (3, false), (4, false), (5, false), (6, false), (7, false), (8, false), (9, false), (10, false), (11, false), (12, false), (13, false), (14, false), (15, false)] (En 34 k0 (B3 P N1)) k0 (B4 P N1) := fun _ _ _ _ _  => by kernel_rfl
noncomputable def o5 := ob Try.f195 [.r,.r,.l,.l,.l,.l]
def B5 (P : PT) (N1 : NTy k0 Pr) (x0 : Value) (x8 x9 : Int) (H : AHeap) : Prop :=
  pif (decide ((x8 : Int) < x9)) (B4 P N1 x0 x8 x9 H) (P (Value.tuple ⟨[]⟩) H)
theorem q5 (P : PT) (N1 : NTy k0 Pr) : QB Try.prog T0 34 o5 (cnd 15 (En 34 k0 (B4 P N1)) (ret P)) k0 (B5 P N1) := fun _ _ _ _ _  => by kernel_rfl
def L1 (P : PT) (x0 : Value) (x8 x9 : Int) (H : AHeap) : Prop :=
  ∃ (I : NTy k0 Pr) (μ : NTy k0 (AHeap → Nat)), I x0 x8 x9 H ∧ ∀ y0 y8 y9 G, I y0 y8 y9 G → B5 P (fun z0 z8 z9 G' => I z0 z8 z9 G' ∧ μ z0 z8 z9 G' < μ y0 y8 y9 G) y0 y8 y9 G
theorem l1 (P : PT) : LQ k0 (L1 P) (B5 P) := fun ⟨_,_,_,_⟩ _ ⟨I, μ, h0, hI⟩ => ⟨apT _ I, apT _ μ, h0, fun ⟨_,_,_,_⟩ _ h => hI _ _ _ _  h⟩
abbrev k1 : Sk := [(0,.v),(2,.i .i64),(8,.i .i64)]
noncomputable def o6 := ob Try.f195 [.r,.l]
def B6 (P : PT) (x0 : Value) (x2 x8 : Int) (H : AHeap) : Prop :=
  L1 P x0 x8 (IntKind.i64.wrap (x2 - 1)) H
theorem q6 (P : PT) : QB Try.prog T0 34 o6 (En 34 k0 (L1 P)) k1 (B6 P) := fun _ _ _ _ _  => by kernel_rfl
abbrev k2 : Sk := [(0,.v),(1,.i .i64),(2,.i .i64)]
noncomputable def o7 := ob Try.f195 [.l]
def B7 (P : PT) (x0 : Value) (x1 x2 : Int) (H : AHeap) : Prop :=
  B6 P x0 x2 x1 H
theorem q7 (P : PT) : QB Try.prog T0 34 o7 (En 34 k1 (B6 P)) k2 (B7 P) := fun _ _ _ _ _  => by kernel_rfl
noncomputable def code : Code := (.seq (.region 0 ⟨o7⟩ false) (.seq (.region 1 ⟨o6⟩ false) (.block 0 (.loop (.seq (.seq (.region 2 ⟨o5⟩ false) (.cond (.tmp 15) .skip (.exit 0))) (.block 1 (.seq (.region 3 ⟨o4⟩ true) (.seq (.region 4 ⟨o3⟩ false) (.region 5 ⟨o2⟩ false)))))))))
theorem body : Try.f195.body = some code := by kernel_rfl
theorem main (P : PT) : ∀ env H, (En 34 k2 (B7 P)) env H → AW Try.prog T0 code env H (mkQ (ret P) (fun _ _ _ => False) (ret P)) :=
  (r_seq (rB T0_ok (q7 P)) (r_seq (rB T0_ok (q6 P)) (r_block (rL (l1 P) (fun N1 => (r_seq (r_seq (rB T0_ok (q5 P N1)) (r_cond rfl r_skip (r_exit (fun _ _ h => h)))) (r_block (r_seq (rD T0_ok mixed [(0, false), (1, false), (2, false), (3, false), (4, false), (5, false), (6, false), (7, false), (8, false), (9, false), (10, false), (11, false), (12, false), (13, false), (14, false), (15, false)] (by kernel_rfl) (q4 P N1)) (r_seq (rB T0_ok (q3 P N1)) (rB T0_ok (q2 P N1)))))))))))
theorem ac (P : PT) (x0 : Value) (x1 x2 : Int) (x3 : Value) (H : AHeap) (h : B7 P x0 x1 x2 H) : AC Try.prog T0 195 [x0, (Value.int .i64 x1), (Value.int .i64 x2), x3] H P :=
  r_fn T0_ok (c := code) (n := 34) Try.func195 body (by kernel_rfl) (main P) (En_mk (x0, x1, x2, ()) (by kernel_rfl) ⟨by kernel_rfl, by kernel_rfl, by kernel_rfl, trivial⟩ h)

end F195
-- slices.partialInsertionSortCmpFunc[loop.example/g01329/impl.set]
namespace F196
noncomputable def ret (P : PT) : EP := retE T0 141 Try.f196 P
abbrev k0 : Sk := []
noncomputable def o1 := ob Try.f196 [.r,.r,.r,.l]
def B1 (P : PT) (H : AHeap) : Prop :=
  P (Value.bool false) H
theorem q1 (P : PT) : QB Try.prog T0 141 o1 (ret P) k0 (B1 P) := fun _ _  => by kernel_rfl
abbrev k1 : Sk := [(0,.v),(1,.i .i64),(2,.i .i64),(3,.v),(9,.i .i64),(10,.i .i64)]
noncomputable def o3 := ob Try.f196 [.r,.r,.l,.r,.l,.l,.r,.r]
def B3 (P : PT) (N2 : NTy k1 Pr) (x0 : Value) (x1 x2 : Int) (x3 : Value) (x9 x10 : Int) (H : AHeap) : Prop :=
  N2 x0 x1 x2 x3 x9 (IntKind.i64.wrap (x10 + 1)) H
theorem q3 (P : PT) (N2 : NTy k1 Pr) : QB Try.prog T0 141 o3 (En 141 k1 N2) k1 (B3 P N2) := fun _ _ _ _ _ _ _ _  => by kernel_rfl
abbrev k2 : Sk := [(0,.v),(1,.i .i64),(2,.i .i64),(3,.v),(9,.i .i64),(10,.i .i64),(12,.i .i64)]
noncomputable def o5 := ob Try.f196 [.r,.r,.l,.r,.l,.l,.r,.l,.l,.r,.r,.r,.r,.r,.r,.l,.r,.l,.l,.r,.r]
def B5 (P : PT) (N2 : NTy k1 Pr) (N4 : NTy k2 Pr) (x0 : Value) (x1 x2 : Int) (x3 : Value) (x9 x10 x12 : Int) (H : AHeap) : Prop :=
  N4 x0 x1 x2 x3 x9 x10 (IntKind.i64.wrap (x12 + 1)) H
theorem q5 (P : PT) (N2 : NTy k1 Pr) (N4 : NTy k2 Pr) : QB Try.prog T0 141 o5 (En 141 k2 N4) k2 (B5 P N2 N4) := fun _ _ _ _ _ _ _ _ _  => by kernel_rfl
noncomputable def o6 := ob Try.f196 [.r,.r,.l,.r,.l,.l,.r,.l,.l,.r,.r,.r,.r,.r,.r,.l,.r,.l,.l,.r,.l,.l,.r]
def B6 (P : PT) (N2 : NTy k1 Pr) (N4 : NTy k2 Pr) (x0 : Value) (x1 x2 : Int) (x3 : Value) (x9 x10 x12 : Int) (H : AHeap) : Prop :=
  idxK x0 (IntKind.i64.wrap (x12 - 1)) 1 (fun b1 o2 => ldI .u64 H b1 o2 (fun v3 => idxK x0 x12 1 (fun b4 o5 => ldI .u64 H b4 o5 (fun v6 => idxK x0 x12 1 (fun b7 o8 => stK H b7 o8 [(Value.int .u64 v3)] (fun H9 => idxK x0 (IntKind.i64.wrap (x12 - 1)) 1 (fun b10 o11 => stK H9 b10 o11 [(Value.int .u64 v6)] (fun H12 => B5 P N2 N4 x0 x1 x2 x3 x9 x10 x12 H12))))))))
theorem q6 (P : PT) (N2 : NTy k1 Pr) (N4 : NTy k2 Pr) : QD Try.prog T0 141 o6 [(0, false), (1, false), (2, false), (3, false), (4, false), (5, false), (6, false), (7, false), (8, false), (9, false), (10, false), (11, false), (12, false), (13, false), (14, false), (15, false), (16, false), (17, false)] (En 141 k2 (B5 P N2 N4)) k2 (B6 P N2 N4) := fun _ _ _ _ _ _ _ _ _  => by kernel_rfl
noncomputable def o7 := ob Try.f196 [.r,.r,.l,.r,.l,.l,.r,.l,.l,.r,.r,.r,.r,.r,.r,.l,.r,.l,.l,.r,.l,.l,.l,.l]
def B7 (P : PT) (N2 : NTy k1 Pr) (N4 : NTy k2 Pr) (x0 : Value) (x1 x2 : Int) (x3 : Value) (x9 x10 x12 : Int) (H : AHeap) : Prop :=
  idxK x0 x12 1 (fun b1 o2 => ldI .u64 H b1 o2 (fun v3 => idxK x0 (IntKind.i64.wrap (x12 - 1)) 1 (fun b4 o5 => ldI .u64 H b4 o5 (fun v6 => callV Try.prog T0 x3 [(Value.int .u64 v3), (Value.int .u64 v6)] H (fun v7 H8 => asI .i64 v7 (fun v9 => pif (!(decide ((v9 : Int) < 0))) (B3 P N2 x0 x1 x2 x3 x9 x10 H8) (B6 P N2 N4 x0 x1 x2 x3 x9 x10 x12 H8)))))))
theorem q7 (P : PT) (N2 : NTy k1 Pr) (N4 : NTy k2 Pr) : QD Try.prog T0 141 o7 [(0, false), (1, false), (2, false), (3, false), (4, false), (5, false), (6, false), (7, false), (8, false), (9, false), (10, false), (11, false), (12, false)] (cnd 124 (En 141 k1 (B3 P N2)) (En 141 k2 (B6 P N2 N4))) k2 (B7 P N2 N4) := fun _ _ _ _ _ _ _ _ _  => by kernel_rfl
noncomputable def o8 := ob Try.f196 [.r,.r,.l,.r,.l,.l,.r,.l,.l,.r,.r,.r,.r,.r,.r,.l,.r,.l,.l,.l,.l]
def B8 (P : PT) (N2 : NTy k1 Pr) (N4 : NTy k2 Pr) (x0 : Value) (x1 x2 : Int) (x3 : Value) (x9 x10 x12 : Int) (H : AHeap) : Prop :=
  pif (decide ((x12 : Int) < x2)) (B7 P N2 N4 x0 x1 x2 x3 x9 x10 x12 H) (B3 P N2 x0 x1 x2 x3 x9 x10 H)
theorem q8 (P : PT) (N2 : NTy k1 Pr) (N4 : NTy k2 Pr) : QB Try.prog T0 141 o8 (cnd 109 (En 141 k2 (B7 P N2 N4)) (En 141 k1 (B3 P N2))) k2 (B8 P N2 N4) := fun _ _ _ _ _ _ _ _ _  => by kernel_rfl
def L4 (P : PT) (N2 : NTy k1 Pr) (x0 : Value) (x1 x2 : Int) (x3 : Value) (x9 x10 x12 : Int) (H : AHeap) : Prop :=
  ∃ (I : NTy k2 Pr) (μ : NTy k2 (AHeap → Nat)), I x0 x1 x2 x3 x9 x10 x12 H ∧ ∀ y0 y1 y2 y3 y9 y10 y12 G, I y0 y1 y2 y3 y9 y10 y12 G → B8 P N2 (fun z0 z1 z2 z3 z9 z10 z12 G' => I z0 z1 z2 z3 z9 z10 z12 G' ∧ μ z0 z1 z2 z3 z9 z10 z12 G' < μ y0 y1 y2 y3 y9 y10 y12 G) y0 y1 y2 y3 y9 y10 y12 G
theorem l4 (P : PT) (N2 : NTy k1 Pr) : LQ k2 (L4 P N2) (B8 P N2) := fun ⟨_,_,_,_,_,_,_,_⟩ _ ⟨I, μ, h0, hI⟩ => ⟨apT _ I, apT _ μ, h0, fun ⟨_,_,_,_,_,_,_,_⟩ _ h => hI _ _ _ _ _ _ _ _  h⟩
noncomputable def o9 := ob Try.f196 [.r,.r,.l,.r,.l,.l,.r,.l,.l,.r,.r,.r,.r,.r,.r,.l,.l]
def B9 (P : PT) (N2 : NTy k1 Pr) (x0 : Value) (x1 x2 : Int) (x3 : Value) (x9 x10 : Int) (H : AHeap) : Prop :=
  L4 P N2 x0 x1 x2 x3 x9 x10 (IntKind.i64.wrap (x9 + 1)) H
theorem q9 (P : PT) (N2 : NTy k1 Pr) : QB Try.prog T0 141 o9 (En 141 k2 (L4 P N2)) k1 (B9 P N2) := fun _ _ _ _ _ _ _ _  => by kernel_rfl
noncomputable def o10 := ob Try.f196 [.r,.r,.l,.r,.l,.l,.r,.l,.l,.r,.r,.r,.r,.r,.l]
def B10 (P : PT) (N2 : NTy k1 Pr) (x0 : Value) (x1 x2 : Int) (x3 : Value) (x9 x10 : Int) (H : AHeap) : Prop :=
  pif (decide ((IntKind.i64.wrap (x2 - x9) : Int) ≥ 2)) (B9 P N2 x0 x1 x2 x3 x9 x10 H) (B3 P N2 x0 x1 x2 x3 x9 x10 H)
theorem q10 (P : PT) (N2 : NTy k1 Pr) : QB Try.prog T0 141 o10 (cnd 104 (En 141 k1 (B9 P N2)) (En 141 k1 (B3 P N2))) k1 (B10 P N2) := fun _ _ _ _ _ _ _ _  => by kernel_rfl
abbrev k3 : Sk := [(0,.v),(1,.i .i64),(2,.i .i64),(3,.v),(9,.i .i64),(10,.i .i64),(11,.i .i64)]
noncomputable def o12 := ob Try.f196 [.r,.r,.l,.r,.l,.l,.r,.l,.l,.r,.r,.r,.r,.l,.r,.l,.r,.l,.l,.r,.r]
def B12 (P : PT) (N2 : NTy k1 Pr) (N11 : NTy k3 Pr) (x0 : Value) (x1 x2 : Int) (x3 : Value) (x9 x10 x11 : Int) (H : AHeap) : Prop :=
  N11 x0 x1 x2 x3 x9 x10 (IntKind.i64.wrap (x11 - 1)) H
theorem q12 (P : PT) (N2 : NTy k1 Pr) (N11 : NTy k3 Pr) : QB Try.prog T0 141 o12 (En 141 k3 N11) k3 (B12 P N2 N11) := fun _ _ _ _ _ _ _ _ _  => by kernel_rfl
noncomputable def o13 := ob Try.f196 [.r,.r,.l,.r,.l,.l,.r,.l,.l,.r,.r,.r,.r,.l,.r,.l,.r,.l,.l,.r,.l,.l,.r]
def B13 (P : PT) (N2 : NTy k1 Pr) (N11 : NTy k3 Pr) (x0 : Value) (x1 x2 : Int) (x3 : Value) (x9 x10 x11 : Int) (H : AHeap) : Prop :=
  idxK x0 (IntKind.i64.wrap (x11 - 1)) 1 (fun b1 o2 => ldI .u64 H b1 o2 (fun v3 => idxK x0 x11 1 (fun b4 o5 => ldI .u64 H b4 o5 (fun v6 => idxK x0 x11 1 (fun b7 o8 => stK H b7 o8 [(Value.int .u64 v3)] (fun H9 => idxK x0 (IntKind.i64.wrap (x11 - 1)) 1 (fun b10 o11 => stK H9 b10 o11 [(Value.int .u64 v6)] (fun H12 => B12 P N2 N11 x0 x1 x2 x3 x9 x10 x11 H12))))))))
theorem q13 (P : PT) (N2 : NTy k1 Pr) (N11 : NTy k3 Pr) : QD Try.prog T0 141 o13 [(0, false), (1, false), (2, false), (3, false), (4, false), (5, false), (6, false), (7, false), (8, false), (9, false), (10, false), (11, false), (12, false), (13, false), (14, false), (15, false), (16, false), (17, false)] (En 141 k3 (B12 P N2 N11)) k3 (B13 P N2 N11) := fun _ _ _ _ _ _ _ _ _  => by kernel_rfl
noncomputable def o14 := ob Try.f196 [.r,.r,.l,.r,.l,.l,.r,.l,.l,.r,.r,.r,.r,.l,.r,.l,.r,.l,.l,.r,.l,.l,.l,.l]
def B14 (P : PT) (N2 : NTy k1 Pr) (N11 : NTy k3 Pr) (x0 : Value) (x1 x2 : Int) (x3 : Value) (x9 x10 x11 : Int) (H : AHeap) : Prop :=
  idxK x0 x11 1 (fun b1 o2 => ldI .u64 H b1 o2 (fun v3 => idxK x0 (IntKind.i64.wrap (x11 - 1)) 1 (fun b4 o5 => ldI .u64 H b4 o5 (fun v6 => callV Try.prog T0 x3 [(Value.int .u64 v3), (Value.int .u64 v6)] H (fun v7 H8 => asI .i64 v7 (fun v9 => pif (!(decide ((v9 : Int) < 0))) (B10 P N2 x0 x1 x2 x3 x9 x10 H8) (B13 P N2 N11 x0 x1 x2 x3 x9 x10 x11 H8)))))))
theorem q14 (P : PT) (N2 : NTy k1 Pr) (N11 : NTy k3 Pr) : QD Try.prog T0 141 o14 [(0, false), (1, false), (2, false), (3, false), (4, false), (5, false), (6, false), (7, false), (8, false), (9, false), (10, false), (11, false), (12, false)] (cnd 84 (En 141 k1 (B10 P N2)) (En 141 k3 (B13 P N2 N11))) k3 (B14 P N2 N11) := fun _ _ _ _ _ _ _ _ _  => by kernel_rfl
noncomputable def o15 := ob Try.f196 [.r,.r,.l,.r,.l,.l,.r,.l,.l,.r,.r,.r,.r,.l,.r,.l,.r,.l,.l,.l,.l]
def B15 (P : PT) (N2 : NTy k1 Pr) (N11 : NTy k3 Pr) (x0 : Value) (x1 x2 : Int) (x3 : Value) (x9 x10 x11 : Int) (H : AHeap) : Prop :=
  pif (decide ((x11 : Int) ≥ 1)) (B14 P N2 N11 x0 x1 x2 x3 x9 x10 x11 H) (B10 P N2 x0 x1 x2 x3 x9 x10 H)
theorem q15 (P : PT) (N2 : NTy k1 Pr) (N11 : NTy k3 Pr) : QB Try.prog T0 141 o15 (cnd 69 (En 141 k3 (B14 P N2 N11)) (En 141 k1 (B10 P N2))) k3 (B15 P N2 N11) := fun _ _ _ _ _ _ _ _ _  => by kernel_rfl
def L11 (P : PT) (N2 : NTy k1 Pr) (x0 : Value) (x1 x2 : Int) (x3 : Value) (x9 x10 x11 : Int) (H : AHeap) : Prop :=
  ∃ (I : NTy k3 Pr) (μ : NTy k3 (AHeap → Nat)), I x0 x1 x2 x3 x9 x10 x11 H ∧ ∀ y0 y1 y2 y3 y9 y10 y11 G, I y0 y1 y2 y3 y9 y10 y11 G → B15 P N2 (fun z0 z1 z2 z3 z9 z10 z11 G' => I z0 z1 z2 z3 z9 z10 z11 G' ∧ μ z0 z1 z2 z3 z9 z10 z11 G' < μ y0 y1 y2 y3 y9 y10 y11 G) y0 y1 y2 y3 y9 y10 y11 G
theorem l11 (P : PT) (N2 : NTy k1 Pr) : LQ k3 (L11 P N2) (B15 P N2) := fun ⟨_,_,_,_,_,_,_,_⟩ _ ⟨I, μ, h0, hI⟩ => ⟨apT _ I, apT _ μ, h0, fun ⟨_,_,_,_,_,_,_,_⟩ _ h => hI _ _ _ _ _ _ _ _  h⟩
noncomputable def o16 := ob Try.f196 [.r,.r,.l,.r,.l,.l,.r,.l,.l,.r,.r,.r,.r,.l,.r,.l,.l]
def B16 (P : PT) (N2 : NTy k1 Pr) (x0 : Value) (x1 x2 : Int) (x3 : Value) (x9 x10 : Int) (H : AHeap) : Prop :=
  L11 P N2 x0 x1 x2 x3 x9 x10 (IntKind.i64.wrap (x9 - 1)) H
theorem q16 (P : PT) (N2 : NTy k1 Pr) : QB Try.prog T0 141 o16 (En 141 k3 (L11 P N2)) k1 (B16 P N2) := fun _ _ _ _ _ _ _ _  => by kernel_rfl
noncomputable def o17 := ob Try.f196 [.r,.r,.l,.r,.l,.l,.r,.l,.l,.r,.r,.r,.r,.l,.l]
def B17 (P : PT) (N2 : NTy k1 Pr) (x0 : Value) (x1 x2 : Int) (x3 : Value) (x9 x10 : Int) (H : AHeap) : Prop :=
  pif (decide ((IntKind.i64.wrap (x9 - x1) : Int) ≥ 2)) (B16 P N2 x0 x1 x2 x3 x9 x10 H) (B10 P N2 x0 x1 x2 x3 x9 x10 H)
theorem q17 (P : PT) (N2 : NTy k1 Pr) : QB Try.prog T0 141 o17 (cnd 65 (En 141 k1 (B16 P N2)) (En 141 k1 (B10 P N2))) k1 (B17 P N2) := fun _ _ _ _ _ _ _ _  => by kernel_rfl
noncomputable def o18 := ob Try.f196 [.r,.r,.l,.r,.l,.l,.r,.l,.l,.r,.r,.r,.l]
def B18 (P : PT) (N2 : NTy k1 Pr) (x0 : Value) (x1 x2 : Int) (x3 : Value) (x9 x10 : Int) (H : AHeap) : Prop :=
  idxK x0 (IntKind.i64.wrap (x9 - 1)) 1 (fun b1 o2 => ldI .u64 H b1 o2 (fun v3 => idxK x0 x9 1 (fun b4 o5 => ldI .u64 H b4 o5 (fun v6 => idxK x0 x9 1 (fun b7 o8 => stK H b7 o8 [(Value.int .u64 v3)] (fun H9 => idxK x0 (IntKind.i64.wrap (x9 - 1)) 1 (fun b10 o11 => stK H9 b10 o11 [(Value.int .u64 v6)] (fun H12 => B17 P N2 x0 x1 x2 x3 x9 x10 H12))))))))
theorem q18 (P : PT) (N2 : NTy k1 Pr) : QD Try.prog T0 141 o18 [(0, false), (1, false), (2, false), (3, false), (4, false), (5, false), (6, false), (7, false), (8, false), (9, false), (10, false), (11, false), (12, false), (13, false), (14, false), (15, false), (16, false), (17, false)] (En 141 k1 (B17 P N2)) k1 (B18 P N2) := fun _ _ _ _ _ _ _ _  => by kernel_rfl
noncomputable def o19 := ob Try.f196 [.r,.r,.l,.r,.l,.l,.r,.l,.l,.r,.r,.l,.r,.l,.l]
def B19 (P : PT) (N2 : NTy k1 Pr) (H : AHeap) : Prop :=
  P (Value.bool false) H
theorem q19 (P : PT) (N2 : NTy k1 Pr) : QB Try.prog T0 141 o19 (ret P) k0 (B19 P N2) := fun _ _  => by kernel_rfl
noncomputable def o20 := ob Try.f196 [.r,.r,.l,.r,.l,.l,.r,.l,.l,.r,.r,.l,.l]
def B20 (P : PT) (N2 : NTy k1 Pr) (x0 : Value) (x1 x2 : Int) (x3 : Value) (x9 x10 : Int) (H : AHeap) : Prop :=
  pif (decide ((IntKind.i64.wrap (x2 - x1) : Int) < 50)) (B19 P N2 H) (B18 P N2 x0 x1 x2 x3 x9 x10 H)
theorem q20 (P : PT) (N2 : NTy k1 Pr) : QB Try.prog T0 141 o20 (cnd 45 (En 141 k0 (B19 P N2)) (En 141 k1 (B18 P N2))) k1 (B20 P N2) := fun _ _ _ _ _ _ _ _  => by kernel_rfl
noncomputable def o21 := ob Try.f196 [.r,.r,.l,.r,.l,.l,.r,.l,.l,.r,.l,.r,.l,.l]
def B21 (P : PT) (N2 : NTy k1 Pr) (H : AHeap) : Prop :=
  P (Value.bool true) H
theorem q21 (P : PT) (N2 : NTy k1 Pr) : QB Try.prog T0 141 o21 (ret P) k0 (B21 P N2) := fun _ _  => by kernel_rfl
noncomputable def o22 := ob Try.f196 [.r,.r,.l,.r,.l,.l,.r,.l,.l,.r,.l,.l]
def B22 (P : PT) (N2 : NTy k1 Pr) (x0 : Value) (x1 x2 : Int) (x3 : Value) (x9 x10 : Int) (H : AHeap) : Prop :=
  pif ((x9 : Int) == x2) (B21 P N2 H) (B20 P N2 x0 x1 x2 x3 x9 x10 H)
theorem q22 (P : PT) (N2 : NTy k1 Pr) : QB Try.prog T0 141 o22 (cnd 41 (En 141 k0 (B21 P N2)) (En 141 k1 (B20 P N2))) k1 (B22 P N2) := fun _ _ _ _ _ _ _ _  => by kernel_rfl
noncomputable def o24 := ob Try.f196 [.r,.r,.l,.r,.l,.l,.r,.l,.l,.l,.l,.l,.r,.l]
def B24 (P : PT) (N2 : NTy k1 Pr) (N23 : NTy k1 Pr) (x0 : Value) (x1 x2 : Int) (x3 : Value) (x9 x10 : Int) (H : AHeap) : Prop :=
  N23 x0 x1 x2 x3 (IntKind.i64.wrap (x9 + 1)) x10 H
theorem q24 (P : PT) (N2 : NTy k1 Pr) (N23 : NTy k1 Pr) : QB Try.prog T0 141 o24 (En 141 k1 N23) k1 (B24 P N2 N23) := fun _ _ _ _ _ _ _ _  => by kernel_rfl
noncomputable def o25 := ob Try.f196 [.r,.r,.l,.r,.l,.l,.r,.l,.l,.l,.l,.l,.l,.l]
def B25 (P : PT) (N2 : NTy k1 Pr) (N23 : NTy k1 Pr) (x0 : Value) (x1 x2 : Int) (x3 : Value) (x9 x10 : Int) (H : AHeap) : Prop :=
  pif (decide ((x9 : Int) < x2)) (idxK x0 x9 1 (fun b1 o2 => ldI .u64 H b1 o2 (fun v3 => idxK x0 (IntKind.i64.wrap (x9 - 1)) 1 (fun b4 o5 => ldI .u64 H b4 o5 (fun v6 => callV Try.prog T0 x3 [(Value.int .u64 v3), (Value.int .u64 v6)] H (fun v7 H8 => asI .i64 v7 (fun v9 => pif (!(decide ((v9 : Int) < 0))) (B24 P N2 N23 x0 x1 x2 x3 x9 x10 H8) (B22 P N2 x0 x1 x2 x3 x9 x10 H8)))))))) (B22 P N2 x0 x1 x2 x3 x9 x10 H)
theorem q25 (P : PT) (N2 : NTy k1 Pr) (N23 : NTy k1 Pr) : QD Try.prog T0 141 o25 [(0, false), (1, false), (2, false), (3, false), (4, false), (5, false), (6, false), (7, false), (8, false), (9, false), (10, false), (11, false), (12, false), (13, false), (14, false), (15, false), (16, false), (17, false)] (cnd 36 (En 141 k1 (B24 P N2 N23)) (En 141 k1 (B22 P N2))) k1 (B25 P N2 N23) := fun _ _ _ _ _ _ _ _  => by kernel_rfl
def L23 (P : PT) (N2 : NTy k1 Pr) (x0 : Value) (x1 x2 : Int) (x3 : Value) (x9 x10 : Int) (H : AHeap) : Prop :=
  ∃ (I : NTy k1 Pr) (μ : NTy k1 (AHeap → Nat)), I x0 x1 x2 x3 x9 x10 H ∧ ∀ y0 y1 y2 y3 y9 y10 G, I y0 y1 y2 y3 y9 y10 G → B25 P N2 (fun z0 z1 z2 z3 z9 z10 G' => I z0 z1 z2 z3 z9 z10 G' ∧ μ z0 z1 z2 z3 z9 z10 G' < μ y0 y1 y2 y3 y9 y10 G) y0 y1 y2 y3 y9 y10 G
theorem l23 (P : PT) (N2 : NTy k1 Pr) : LQ k1 (L23 P N2) (B25 P N2) := fun ⟨_,_,_,_,_,_,_⟩ _ ⟨I, μ, h0, hI⟩ => ⟨apT _ I, apT _ μ, h0, fun ⟨_,_,_,_,_,_,_⟩ _ h => hI _ _ _ _ _ _ _  h⟩
noncomputable def o26 := ob Try.f196 [.r,.r,.l,.r,.l,.l,.l,.l]
def B26 (P : PT) (N2 : NTy k1 Pr) (x0 : Value) (x1 x2 : Int) (x3 : Value) (x9 x10 : Int) (H : AHeap) : Prop :=
  pif (decide ((x10 : Int) < 5)) (L23 P N2 x0 x1 x2 x3 x9 x10 H) (B1 P H)
theorem q26 (P : PT) (N2 : NTy k1 Pr) : QB Try.prog T0 141 o26 (cnd 16 (En 141 k1 (L23 P N2)) (En 141 k0 (B1 P))) k1 (B26 P N2) := fun _ _ _ _ _ _ _ _  => by kernel_rfl
def L2 (P : PT) (x0 : Value) (x1 x2 : Int) (x3 : Value) (x9 x10 : Int) (H : AHeap) : Prop :=
  ∃ (I : NTy k1 Pr) (μ : NTy k1 (AHeap → Nat)), I x0 x1 x2 x3 x9 x10 H ∧ ∀ y0 y1 y2 y3 y9 y10 G, I y0 y1 y2 y3 y9 y10 G → B26 P (fun z0 z1 z2 z3 z9 z10 G' => I z0 z1 z2 z3 z9 z10 G' ∧ μ z0 z1 z2 z3 z9 z10 G' < μ y0 y1 y2 y3 y9 y10 G) y0 y1 y2 y3 y9 y10 G
theorem l2 (P : PT) : LQ k1 (L2 P) (B26 P) := fun ⟨_,_,_,_,_,_,_⟩ _ ⟨I, μ, h0, hI⟩ => ⟨apT _ I, apT _ μ, h0, fun ⟨_,_,_,_,_,_,_⟩ _ h => hI _ _ _ _ _ _ _  h⟩
abbrev k4 : Sk := [(0,.v),(1,.i .i64),(2,.i .i64),(3,.v),(9,.i .i64)]
noncomputable def o27 := ob Try.f196 [.r,.r,.l,.l]
def B27 (P : PT) (x0 : Value) (x1 x2 : Int) (x3 : Value) (x9 : Int) (H : AHeap) : Prop :=
  L2 P x0 x1 x2 x3 x9 0 H
theorem q27 (P : PT) : QB Try.prog T0 141 o27 (En 141 k1 (L2 P)) k4 (B27 P) := fun _ _ _ _ _ _ _  => by kernel_rfl
abbrev k5 : Sk := [(0,.v),(1,.i .i64),(2,.i .i64),(3,.v)]
noncomputable def o28 := ob Try.f196 [.r,.l]
def B28 (P : PT) (x0 : Value) (x1 x2 : Int) (x3 : Value) (H : AHeap) : Prop :=
  B27 P x0 x1 x2 x3 (IntKind.i64.wrap (x1 + 1)) H
theorem q28 (P : PT) : QB Try.prog T0 141 o28 (En 141 k4 (B27 P)) k5 (B28 P) := fun _ _ _ _ _ _  => by kernel_rfl
noncomputable def o29 := ob Try.f196 [.l]
def B29 (P : PT) (x0 : Value) (x1 x2 : Int) (x3 : Value) (H : AHeap) : Prop :=
  B28 P x0 x1 x2 x3 H
theorem q29 (P : PT) : QB Try.prog T0 141 o29 (En 141 k5 (B28 P)) k5 (B29 P) := fun _ _ _ _ _ _  => by kernel_rfl
noncomputable def code : Code := (.seq (.region 0 ⟨o29⟩ false) (.seq (.region 1 ⟨o28⟩ false) (.seq (.seq (.region 2 ⟨o27⟩ false) (.block 0 (.loop (.seq (.seq (.region 3 ⟨o26⟩ false) (.cond (.tmp 16) .skip (.exit 0))) (.seq (.block 1 (.seq (.block 2 (.loop (.seq (.seq (.region 5 ⟨o25⟩ true) (.cond (.tmp 36) .skip (.exit 2))) (.block 3 (.region 6 ⟨o24⟩ false))))) (.seq (.seq (.region 7 ⟨o22⟩ false) (.cond (.tmp 41) (.seq (.region 8 ⟨o21⟩ false) .ret) .skip)) (.seq (.seq (.region 9 ⟨o20⟩ false) (.cond (.tmp 45) (.seq (.region 10 ⟨o19⟩ false) .ret) .skip)) (.seq (.region 11 ⟨o18⟩ true) (.seq (.seq (.region 12 ⟨o17⟩ false) (.cond (.tmp 65) (.seq (.region 13 ⟨o16⟩ false) (.block 4 (.loop (.seq (.seq (.region 14 ⟨o15⟩ false) (.cond (.tmp 69) .skip (.exit 4))) (.seq (.block 5 (.seq (.seq (.region 16 ⟨o14⟩ true) (.cond (.tmp 84) (.exit 4) .skip)) (.region 17 ⟨o13⟩ true))) (.region 15 ⟨o12⟩ false)))))) .skip)) (.seq (.region 18 ⟨o10⟩ false) (.cond (.tmp 104) (.seq (.region 19 ⟨o9⟩ false) (.block 6 (.loop (.seq (.seq (.region 20 ⟨o8⟩ false) (.cond (.tmp 109) .skip (.exit 6))) (.seq (.block 7 (.seq (.seq (.region 22 ⟨o7⟩ true) (.cond (.tmp 124) (.exit 6) .skip)) (.region 23 ⟨o6⟩ true))) (.region 21 ⟨o5⟩ false)))))) .skip)))))))) (.region 4 ⟨o3⟩ false)))))) (.seq (.region 24 ⟨o1⟩ false) .ret))))
theorem body : Try.f196.body = some code := by kernel_rfl
theorem main (P : PT) : ∀ env H, (En 141 k5 (B29 P)) env H → AW Try.prog T0 code env H (mkQ (ret P) (fun _ _ _ => False) (ret P)) :=
  (r_seq (rB T0_ok (q29 P)) (r_seq (rB T0_ok (q28 P)) (r_seq (r_seq (rB T0_ok (q27 P)) (r_block (rL (l2 P) (fun N2 => (r_seq (r_seq (rB T0_ok (q26 P N2)) (r_cond rfl r_skip (r_exit (fun _ _ h => h)))) (r_seq (r_block (r_seq (r_block (rL (l23 P N2) (fun N23 => (r_seq (r_seq (rD T0_ok mixed [(0, false), (1, false), (2, false), (3, false), (4, false), (5, false), (6, false), (7, false), (8, false), (9, false), (10, false), (11, false), (12, false), (13, false), (14, false), (15, false), (16, false), (17, false)] (by kernel_rfl) (q25 P N2 N23)) (r_cond rfl r_skip (r_exit (fun _ _ h => h)))) (r_block (rB T0_ok (q24 P N2 N23))))))) (r_seq (r_seq (rB T0_ok (q22 P N2)) (r_cond rfl (r_seq (rB T0_ok (q21 P N2)) r_ret) r_skip)) (r_seq (r_seq (rB T0_ok (q20 P N2)) (r_cond rfl (r_seq (rB T0_ok (q19 P N2)) r_ret) r_skip)) (r_seq (rD T0_ok mixed [(0, false), (1, false), (2, false), (3, false), (4, false), (5, false), (6, false), (7, false), (8, false), (9, false), (10, false), (11, false), (12, false), (13, false), (14, false), (15, false), (16, false), (17, false)] (by kernel_rfl) (q18 P N2)) (r_seq (r_seq (rB T0_ok (q17 P N2)) (r_cond rfl (r_seq (rB T0_ok (q16 P N2)) (r_block (rL (l11 P N2) (fun N11 => (r_seq (r_seq (rB T0_ok (q15 P N2 N11)) (r_cond rfl r_skip (r_exit (fun _ _ h => h)))) (r_seq (r_block (r_seq (r_seq (rD T0_ok mixed [(0, false), (1, false), (2, false), (3, false), (4, false), (5, false), (6, false), (7, false), (8, false), (9, false), (10, false), (11, false), (12, false)] (by kernel_rfl) (q14 P N2 N11)) (r_cond rfl (r_exit (fun _ _ h => h)) r_skip)) (rD T0_ok mixed [(0, false), (1, false), (2, false), (3, false), (4, false), (5, false), (6, false), (7, false), (8, false), (9, false), (10, false), (11, false), (12, false), (13, false), (14, false), (15, false), (16, false), (17, false)] (by kernel_rfl) (q13 P N2 N11)))) (rB T0_ok (q12 P N2 N11)))))))) r_skip)) (r_seq (rB T0_ok (q10 P N2)) (r_cond rfl (r_seq (rB T0_ok (q9 P N2)) (r_block (rL (l4 P N2) (fun N4 => (r_seq (r_seq (rB T0_ok (q8 P N2 N4)) (r_cond rfl r_skip (r_exit (fun _ _ h => h)))) (r_seq (r_block (r_seq (r_seq (rD T0_ok mixed [(0, false), (1, false), (2, false), (3, false), (4, false), (5, false), (6, false), (7, false), (8, false), (9, false), (10, false), (11, false), (12, false)] (by kernel_rfl) (q7 P N2 N4)) (r_cond rfl (r_exit (fun _ _ h => h)) r_skip)) (rD T0_ok mixed [(0, false), (1, false), (2, false), (3, false), (4, false), (5, false), (6, false), (7, false), (8, false), (9, false), (10, false), (11, false), (12, false), (13, false), (14, false), (15, false), (16, false), (17, false)] (by kernel_rfl) (q6 P N2 N4)))) (rB T0_ok (q5 P N2 N4)))))))) r_skip)))))))) (rB T0_ok (q3 P N2)))))))) (r_seq (rB T0_ok (q1 P)) r_ret))))
theorem ac (P : PT) (x0 : Value) (x1 x2 : Int) (x3 : Value) (H : AHeap) (h : B29 P x0 x1 x2 x3 H) : AC Try.prog T0 196 [x0, (Value.int .i64 x1), (Value.int .i64 x2), x3] H P :=
  r_fn T0_ok (c := code) (n := 141) Try.func196 body (by kernel_rfl) (main P) (En_mk (x0, x1, x2, x3, ()) (by kernel_rfl) ⟨by kernel_rfl, by kernel_rfl, by kernel_rfl, by kernel_rfl, trivial⟩ h)

end F196
-- slices.partitionEqualCmpFunc[loop.example/g01329/impl.set]
namespace F197
noncomputable def ret (P : PT) : EP := retE T0 90 Try.f197 P
abbrev k0 : Sk := [(11,.i .i64)]
noncomputable def o1 := ob Try.f197 [.r,.r,.r,.r,.l]
def B1 (P : PT) (x11 : Int) (H : AHeap) : Prop :=
  P (Value.int .i64 x11) H
theorem q1 (P : PT) : QB Try.prog T0 90 o1 (ret P) k0 (B1 P) := fun _ _ _  => by kernel_rfl
abbrev k1 : Sk := [(0,.v),(1,.i .i64),(4,.v),(11,.i .i64),(12,.i .i64)]
noncomputable def o3 := ob Try.f197 [.r,.r,.r,.l,.l,.l,.l,.r,.r,.r,.r,.r]
def B3 (P : PT) (N2 : NTy k1 Pr) (x0 : Value) (x1 : Int) (x4 : Value) (x11 x12 : Int) (H : AHeap) : Prop :=
  N2 x0 x1 x4 x11 (IntKind.i64.wrap (x12 - 1)) H
theorem q3 (P : PT) (N2 : NTy k1 Pr) : QB Try.prog T0 90 o3 (En 90 k1 N2) k1 (B3 P N2) := fun _ _ _ _ _ _ _  => by kernel_rfl
noncomputable def o4 := ob Try.f197 [.r,.r,.r,.l,.l,.l,.l,.r,.r,.r,.r,.l]
def B4 (P : PT) (N2 : NTy k1 Pr) (x0 : Value) (x1 : Int) (x4 : Value) (x11 x12 : Int) (H : AHeap) : Prop :=
  B3 P N2 x0 x1 x4 (IntKind.i64.wrap (x11 + 1)) x12 H
theorem q4 (P : PT) (N2 : NTy k1 Pr) : QB Try.prog T0 90 o4 (En 90 k1 (B3 P N2)) k1 (B4 P N2) := fun _ _ _ _ _ _ _  => by kernel_rfl
noncomputable def o5 := ob Try.f197 [.r,.r,.r,.l,.l,.l,.l,.r,.r,.r,.l]
def B5 (P : PT) (N2 : NTy k1 Pr) (x0 : Value) (x1 : Int) (x4 : Value) (x11 x12 : Int) (H : AHeap) : Prop :=
  idxK x0 x12 1 (fun b1 o2 => ldI .u64 H b1 o2 (fun v3 => idxK x0 x11 1 (fun b4 o5 => ldI .u64 H b4 o5 (fun v6 => idxK x0 x11 1 (fun b7 o8 => stK H b7 o8 [(Value.int .u64 v3)] (fun H9 => idxK x0 x12 1 (fun b10 o11 => stK H9 b10 o11 [(Value.int .u64 v6)] (fun H12 => B4 P N2 x0 x1 x4 x11 x12 H12))))))))
theorem q5 (P : PT) (N2 : NTy k1 Pr) : QD Try.prog T0 90 o5 [(0, false), (1, false), (2, false), (3, false), (4, false), (5, false), (6, false), (7, false), (8, false), (9, false), (10, false), (11, false), (12, false), (13, false), (14, false), (15, false)] (En 90 k1 (B4 P N2)) k1 (B5 P N2) := fun _ _ _ _ _ _ _  => by kernel_rfl
noncomputable def o6 := ob Try.f197 [.r,.r,.r,.l,.l,.l,.l,.r,.r,.l,.l]
def B6 (P : PT) (N2 : NTy k1 Pr) (x0 : Value) (x1 : Int) (x4 : Value) (x11 x12 : Int) (H : AHeap) : Prop :=
  pif (decide ((x11 : Int) > x12)) (B1 P x11 H) (B5 P N2 x0 x1 x4 x11 x12 H)
theorem q6 (P : PT) (N2 : NTy k1 Pr) : QB Try.prog T0 90 o6 (cnd 70 (En 90 k0 (B1 P)) (En 90 k1 (B5 P N2))) k1 (B6 P N2) := fun _ _ _ _ _ _ _  => by kernel_rfl
noncomputable def o8 := ob Try.f197 [.r,.r,.r,.l,.l,.l,.l,.r,.l,.l,.l,.r,.l]
def B8 (P : PT) (N2 : NTy k1 Pr) (N7 : NTy k1 Pr) (x0 : Value) (x1 : Int) (x4 : Value) (x11 x12 : Int) (H : AHeap) : Prop :=
  N7 x0 x1 x4 x11 (IntKind.i64.wrap (x12 - 1)) H
theorem q8 (P : PT) (N2 : NTy k1 Pr) (N7 : NTy k1 Pr) : QB Try.prog T0 90 o8 (En 90 k1 N7) k1 (B8 P N2 N7) := fun _ _ _ _ _ _ _  => by kernel_rfl
noncomputable def o9 := ob Try.f197 [.r,.r,.r,.l,.l,.l,.l,.r,.l,.l,.l,.l,.l]
def B9 (P : PT) (N2 : NTy k1 Pr) (N7 : NTy k1 Pr) (x0 : Value) (x1 : Int) (x4 : Value) (x11 x12 : Int) (H : AHeap) : Prop :=
  pif (decide ((x11 : Int) ≤ x12)) (idxK x0 x1 1 (fun b1 o2 => ldI .u64 H b1 o2 (fun v3 => idxK x0 x12 1 (fun b4 o5 => ldI .u64 H b4 o5 (fun v6 => callV Try.prog T0 x4 [(Value.int .u64 v3), (Value.int .u64 v6)] H (fun v7 H8 => asI .i64 v7 (fun v9 => pif (decide ((v9 : Int) < 0)) (B8 P N2 N7 x0 x1 x4 x11 x12 H8) (B6 P N2 x0 x1 x4 x11 x12 H8)))))))) (B6 P N2 x0 x1 x4 x11 x12 H)
theorem q9 (P : PT) (N2 : NTy k1 Pr) (N7 : NTy k1 Pr) : QD Try.prog T0 90 o9 [(0, false), (1, false), (2, false), (3, false), (4, false), (5, false), (6, false), (7, false), (8, false), (9, false), (10, false), (11, false), (12, false), (13, false), (14, false), (15, false)] (cnd 65 (En 90 k1 (B8 P N2 N7)) (En 90 k1 (B6 P N2))) k1 (B9 P N2 N7) := fun _ _ _ _ _ _ _  => by kernel_rfl
def L7 (P : PT) (N2 : NTy k1 Pr) (x0 : Value) (x1 : Int) (x4 : Value) (x11 x12 : Int) (H : AHeap) : Prop :=
  ∃ (I : NTy k1 Pr) (μ : NTy k1 (AHeap → Nat)), I x0 x1 x4 x11 x12 H ∧ ∀ y0 y1 y4 y11 y12 G, I y0 y1 y4 y11 y12 G → B9 P N2 (fun z0 z1 z4 z11 z12 G' => I z0 z1 z4 z11 z12 G' ∧ μ z0 z1 z4 z11 z12 G' < μ y0 y1 y4 y11 y12 G) y0 y1 y4 y11 y12 G
theorem l7 (P : PT) (N2 : NTy k1 Pr) : LQ k1 (L7 P N2) (B9 P N2) := fun ⟨_,_,_,_,_,_⟩ _ ⟨I, μ, h0, hI⟩ => ⟨apT _ I, apT _ μ, h0, fun ⟨_,_,_,_,_,_⟩ _ h => hI _ _ _ _ _ _  h⟩
noncomputable def o11 := ob Try.f197 [.r,.r,.r,.l,.l,.l,.l,.l,.l,.l,.r,.l]
def B11 (P : PT) (N2 : NTy k1 Pr) (N10 : NTy k1 Pr) (x0 : Value) (x1 : Int) (x4 : Value) (x11 x12 : Int) (H : AHeap) : Prop :=
  N10 x0 x1 x4 (IntKind.i64.wrap (x11 + 1)) x12 H
theorem q11 (P : PT) (N2 : NTy k1 Pr) (N10 : NTy k1 Pr) : QB Try.prog T0 90 o11 (En 90 k1 N10) k1 (B11 P N2 N10) := fun _ _ _ _ _ _ _  => by kernel_rfl
noncomputable def o12 := ob Try.f197 [.r,.r,.r,.l,.l,.l,.l,.l,.l,.l,.l,.l]
def B12 (P : PT) (N2 : NTy k1 Pr) (N10 : NTy k1 Pr) (x0 : Value) (x1 : Int) (x4 : Value) (x11 x12 : Int) (H : AHeap) : Prop :=
  pif (decide ((x11 : Int) ≤ x12)) (idxK x0 x1 1 (fun b1 o2 => ldI .u64 H b1 o2 (fun v3 => idxK x0 x11 1 (fun b4 o5 => ldI .u64 H b4 o5 (fun v6 => callV Try.prog T0 x4 [(Value.int .u64 v3), (Value.int .u64 v6)] H (fun v7 H8 => asI .i64 v7 (fun v9 => pif (!(decide ((v9 : Int) < 0))) (B11 P N2 N10 x0 x1 x4 x11 x12 H8) (L7 P N2 x0 x1 x4 x11 x12 H8)))))))) (L7 P N2 x0 x1 x4 x11 x12 H)
theorem q12 (P : PT) (N2 : NTy k1 Pr) (N10 : NTy k1 Pr) : QD Try.prog T0 90 o12 [(0, false), (1, false), (2, false), (3, false), (4, false), (5, false), (6, false), (7, false), (8, false), (9, false), (10, false), (11, false), (12, false), (13, false), (14, false), (15, false), (16, false)] (cnd 47 (En 90 k1 (B11 P N2 N10)) (En 90 k1 (L7 P N2))) k1 (B12 P N2 N10) := fun _ _ _ _ _ _ _  => by kernel_rfl
def L10 (P : PT) (N2 : NTy k1 Pr) (x0 : Value) (x1 : Int) (x4 : Value) (x11 x12 : Int) (H : AHeap) : Prop :=
  ∃ (I : NTy k1 Pr) (μ : NTy k1 (AHeap → Nat)), I x0 x1 x4 x11 x12 H ∧ ∀ y0 y1 y4 y11 y12 G, I y0 y1 y4 y11 y12 G → B12 P N2 (fun z0 z1 z4 z11 z12 G' => I z0 z1 z4 z11 z12 G' ∧ μ z0 z1 z4 z11 z12 G' < μ y0 y1 y4 y11 y12 G) y0 y1 y4 y11 y12 G
theorem l10 (P : PT) (N2 : NTy k1 Pr) : LQ k1 (L10 P N2) (B12 P N2) := fun ⟨_,_,_,_,_,_⟩ _ ⟨I, μ, h0, hI⟩ => ⟨apT _ I, apT _ μ, h0, fun ⟨_,_,_,_,_,_⟩ _ h => hI _ _ _ _ _ _  h⟩
def L2 (P : PT) (x0 : Value) (x1 : Int) (x4 : Value) (x11 x12 : Int) (H : AHeap) : Prop :=
  ∃ (I : NTy k1 Pr) (μ : NTy k1 (AHeap → Nat)), I x0 x1 x4 x11 x12 H ∧ ∀ y0 y1 y4 y11 y12 G, I y0 y1 y4 y11 y12 G → L10 P (fun z0 z1 z4 z11 z12 G' => I z0 z1 z4 z11 z12 G' ∧ μ z0 z1 z4 z11 z12 G' < μ y0 y1 y4 y11 y12 G) y0 y1 y4 y11 y12 G
theorem l2 (P : PT) : LQ k1 (L2 P) (L10 P) := fun ⟨_,_,_,_,_,_⟩ _ ⟨I, μ, h0, hI⟩ => ⟨apT _ I, apT _ μ, h0, fun ⟨_,_,_,_,_,_⟩ _ h => hI _ _ _ _ _ _  h⟩
abbrev k2 : Sk := [(0,.v),(1,.i .i64),(2,.i .i64),(4,.v)]
noncomputable def o13 := ob Try.f197 [.r,.r,.l]
def B13 (P : PT) (x0 : Value) (x1 x2 : Int) (x4 : Value) (H : AHeap) : Prop :=
  L2 P x0 x1 x4 (IntKind.i64.wrap (x1 + 1)) (IntKind.i64.wrap (x2 - 1)) H
theorem q13 (P : PT) : QB Try.prog T0 90 o13 (En 90 k1 (L2 P)) k2 (B13 P) := fun _ _ _ _ _ _  => by kernel_rfl
abbrev k3 : Sk := [(0,.v),(1,.i .i64),(2,.i .i64),(3,.i .i64),(4,.v)]
noncomputable def o14 := ob Try.f197 [.r,.l]
def B14 (P : PT) (x0 : Value) (x1 x2 x3 : Int) (x4 : Value) (H : AHeap) : Prop :=
  idxK x0 x3 1 (fun b1 o2 => ldI .u64 H b1 o2 (fun v3 => idxK x0 x1 1 (fun b4 o5 => ldI .u64 H b4 o5 (fun v6 => idxK x0 x1 1 (fun b7 o8 => stK H b7 o8 [(Value.int .u64 v3)] (fun H9 => idxK x0 x3 1 (fun b10 o11 => stK H9 b10 o11 [(Value.int .u64 v6)] (fun H12 => B13 P x0 x1 x2 x4 H12))))))))
theorem q14 (P : PT) : QD Try.prog T0 90 o14 [(0, false), (1, false), (2, false), (3, false), (4, false), (5, false), (6, false), (7, false), (8, false), (9, false), (10, false), (11, false), (12, false), (13, false), (14, false), (15, false)] (En 90 k2 (B13 P)) k3 (B14 P) := fun _ _ _ _ _ _ _  => by kernel_rfl
noncomputable def o15 := ob Try.f197 [.l]
def B15 (P : PT) (x0 : Value) (x1 x2 x3 : Int) (x4 : Value) (H : AHeap) : Prop :=
  B14 P x0 x1 x2 x3 x4 H
theorem q15 (P : PT) : QB Try.prog T0 90 o15 (En 90 k3 (B14 P)) k3 (B15 P) := fun _ _ _ _ _ _ _  => by kernel_rfl
noncomputable def code : Code := (.seq (.region 0 ⟨o15⟩ false) (.seq (.region 1 ⟨o14⟩ true) (.seq (.region 2 ⟨o13⟩ false) (.seq (.block 0 (.loop (.block 1 (.seq (.block 2 (.loop (.seq (.seq (.region 3 ⟨o12⟩ true) (.cond (.tmp 47) .skip (.exit 2))) (.block 3 (.region 4 ⟨o11⟩ false))))) (.seq (.block 4 (.loop (.seq (.seq (.region 5 ⟨o9⟩ true) (.cond (.tmp 65) .skip (.exit 4))) (.block 5 (.region 6 ⟨o8⟩ false))))) (.seq (.seq (.region 7 ⟨o6⟩ false) (.cond (.tmp 70) (.exit 0) .skip)) (.seq (.region 8 ⟨o5⟩ true) (.seq (.region 9 ⟨o4⟩ false) (.region 10 ⟨o3⟩ false))))))))) (.seq (.region 11 ⟨o1⟩ false) .ret)))))
theorem body : Try.f197.body = some code := by kernel_rfl
theorem main (P : PT) : ∀ env H, (En 90 k3 (B15 P)) env H → AW Try.prog T0 code env H (mkQ (ret P) (fun _ _ _ => False) (ret P)) :=
  (r_seq (rB T0_ok (q15 P)) (r_seq (rD T0_ok mixed [(0, false), (1, false), (2, false), (3, false), (4, false), (5, false), (6, false), (7, false), (8, false), (9, false), (10, false), (11, false), (12, false), (13, false), (14, false), (15, false)] (by kernel_rfl) (q14 P)) (r_seq (rB T0_ok (q13 P)) (r_seq (r_block (rL (l2 P) (fun N2 => (r_block (r_seq (r_block (rL (l10 P N2) (fun N10 => (r_seq (r_seq (rD T0_ok mixed [(0, false), (1, false), (2, false), (3, false), (4, false), (5, false), (6, false), (7, false), (8, false), (9, false), (10, false), (11, false), (12, false), (13, false), (14, false), (15, false), (16, false)] (by kernel_rfl) (q12 P N2 N10)) (r_cond rfl r_skip (r_exit (fun _ _ h => h)))) (r_block (rB T0_ok (q11 P N2 N10))))))) (r_seq (r_block (rL (l7 P N2) (fun N7 => (r_seq (r_seq (rD T0_ok mixed [(0, false), (1, false), (2, false), (3, false), (4, false), (5, false), (6, false), (7, false), (8, false), (9, false), (10, false), (11, false), (12, false), (13, false), (14, false), (15, false)] (by kernel_rfl) (q9 P N2 N7)) (r_cond rfl r_skip (r_exit (fun _ _ h => h)))) (r_block (rB T0_ok (q8 P N2 N7))))))) (r_seq (r_seq (rB T0_ok (q6 P N2)) (r_cond rfl (r_exit (fun _ _ h => h)) r_skip)) (r_seq (rD T0_ok mixed [(0, false), (1, false), (2, false), (3, false), (4, false), (5, false), (6, false), (7, false), (8, false), (9, false), (10, false), (11, false), (12, false), (13, false), (14, false), (15, false)] (by kernel_rfl) (q5 P N2)) (r_seq (rB T0_ok (q4 P N2)) (rB T0_ok (q3 P N2))))))))))) (r_seq (rB T0_ok (q1 P)) r_ret)))))
theorem ac (P : PT) (x0 : Value) (x1 x2 x3 : Int) (x4 : Value) (H : AHeap) (h : B15 P x0 x1 x2 x3 x4 H) : AC Try.prog T0 197 [x0, (Value.int .i64 x1), (Value.int .i64 x2), (Value.int .i64 x3), x4] H P :=
  r_fn T0_ok (c := code) (n := 90) Try.func197 body (by kernel_rfl) (main P) (En_mk (x0, x1, x2, x3, x4, ()) (by kernel_rfl) ⟨by kernel_rfl, by kernel_rfl, by kernel_rfl, by kernel_rfl, by kernel_rfl, trivial⟩ h)

end F197
-- slices.partitionCmpFunc[loop.example/g01329/impl.set]
namespace F198
noncomputable def ret (P : PT) : EP := retE T0 178 Try.f198 P
abbrev k0 : Sk := [(13,.i .i64)]
noncomputable def o1 := ob Try.f198 [.r,.r,.r,.r,.r,.r,.r,.r,.r,.r,.r,.l]
def B1 (P : PT) (x13 : Int) (H : AHeap) : Prop :=
  P (Value.tuple ⟨[(Value.int .i64 x13), (Value.bool false)]⟩) H
theorem q1 (P : PT) : QB Try.prog T0 178 o1 (ret P) k0 (B1 P) := fun _ _ _  => by kernel_rfl
abbrev k1 : Sk := [(0,.v),(1,.i .i64),(13,.i .i64)]
noncomputable def o2 := ob Try.f198 [.r,.r,.r,.r,.r,.r,.r,.r,.r,.r,.l]
def B2 (P : PT) (x0 : Value) (x1 x13 : Int) (H : AHeap) : Prop :=
  idxK x0 x1 1 (fun b1 o2 => ldI .u64 H b1 o2 (fun v3 => idxK x0 x13 1 (fun b4 o5 => ldI .u64 H b4 o5 (fun v6 => idxK x0 x13 1 (fun b7 o8 => stK H b7 o8 [(Value.int .u64 v3)] (fun H9 => idxK x0 x1 1 (fun b10 o11 => stK H9 b10 o11 [(Value.int .u64 v6)] (fun H12 => B1 P x13 H12))))))))
theorem q2 (P : PT) : QD Try.prog T0 178 o2 [(0, false), (1, false), (2, false), (3, false), (4, false), (5, false), (6, false), (7, false), (8, false), (9, false), (10, false), (11, false), (12, false), (13, false), (14, false), (15, false)] (En 178 k0 (B1 P)) k1 (B2 P) := fun _ _ _ _ _  => by kernel_rfl
abbrev k2 : Sk := [(0,.v),(1,.i .i64),(4,.v),(12,.i .i64),(13,.i .i64)]
noncomputable def o4 := ob Try.f198 [.r,.r,.r,.r,.r,.r,.r,.r,.r,.l,.l,.l,.l,.r,.r,.r,.r,.r]
def B4 (P : PT) (N3 : NTy k2 Pr) (x0 : Value) (x1 : Int) (x4 : Value) (x12 x13 : Int) (H : AHeap) : Prop :=
  N3 x0 x1 x4 x12 (IntKind.i64.wrap (x13 - 1)) H
theorem q4 (P : PT) (N3 : NTy k2 Pr) : QB Try.prog T0 178 o4 (En 178 k2 N3) k2 (B4 P N3) := fun _ _ _ _ _ _ _  => by kernel_rfl
noncomputable def o5 := ob Try.f198 [.r,.r,.r,.r,.r,.r,.r,.r,.r,.l,.l,.l,.l,.r,.r,.r,.r,.l]
def B5 (P : PT) (N3 : NTy k2 Pr) (x0 : Value) (x1 : Int) (x4 : Value) (x12 x13 : Int) (H : AHeap) : Prop :=
  B4 P N3 x0 x1 x4 (IntKind.i64.wrap (x12 + 1)) x13 H
theorem q5 (P : PT) (N3 : NTy k2 Pr) : QB Try.prog T0 178 o5 (En 178 k2 (B4 P N3)) k2 (B5 P N3) := fun _ _ _ _ _ _ _  => by kernel_rfl
noncomputable def o6 := ob Try.f198 [.r,.r,.r,.r,.r,.r,.r,.r,.r,.l,.l,.l,.l,.r,.r,.r,.l]
def B6 (P : PT) (N3 : NTy k2 Pr) (x0 : Value) (x1 : Int) (x4 : Value) (x12 x13 : Int) (H : AHeap) : Prop :=
  idxK x0 x13 1 (fun b1 o2 => ldI .u64 H b1 o2 (fun v3 => idxK x0 x12 1 (fun b4 o5 => ldI .u64 H b4 o5 (fun v6 => idxK x0 x12 1 (fun b7 o8 => stK H b7 o8 [(Value.int .u64 v3)] (fun H9 => idxK x0 x13 1 (fun b10 o11 => stK H9 b10 o11 [(Value.int .u64 v6)] (fun H12 => B5 P N3 x0 x1 x4 x12 x13 H12))))))))
theorem q6 (P : PT) (N3 : NTy k2 Pr) : QD Try.prog T0 178 o6 [(0, false), (1, false), (2, false), (3, false), (4, false), (5, false), (6, false), (7, false), (8, false), (9, false), (10, false), (11, false), (12, false), (13, false), (14, false), (15, false)] (En 178 k2 (B5 P N3)) k2 (B6 P N3) := fun _ _ _ _ _ _ _  => by kernel_rfl
noncomputable def o7 := ob Try.f198 [.r,.r,.r,.r,.r,.r,.r,.r,.r,.l,.l,.l,.l,.r,.r,.l,.l]
def B7 (P : PT) (N3 : NTy k2 Pr) (x0 : Value) (x1 : Int) (x4 : Value) (x12 x13 : Int) (H : AHeap) : Prop :=
  pif (decide ((x12 : Int) > x13)) (B2 P x0 x1 x13 H) (B6 P N3 x0 x1 x4 x12 x13 H)
theorem q7 (P : PT) (N3 : NTy k2 Pr) : QB Try.prog T0 178 o7 (cnd 144 (En 178 k1 (B2 P)) (En 178 k2 (B6 P N3))) k2 (B7 P N3) := fun _ _ _ _ _ _ _  => by kernel_rfl
noncomputable def o9 := ob Try.f198 [.r,.r,.r,.r,.r,.r,.r,.r,.r,.l,.l,.l,.l,.r,.l,.l,.l,.r,.l]
def B9 (P : PT) (N3 : NTy k2 Pr) (N8 : NTy k2 Pr) (x0 : Value) (x1 : Int) (x4 : Value) (x12 x13 : Int) (H : AHeap) : Prop :=
  N8 x0 x1 x4 x12 (IntKind.i64.wrap (x13 - 1)) H
theorem q9 (P : PT) (N3 : NTy k2 Pr) (N8 : NTy k2 Pr) : QB Try.prog T0 178 o9 (En 178 k2 N8) k2 (B9 P N3 N8) := fun _ _ _ _ _ _ _  => by kernel_rfl
noncomputable def o10 := ob Try.f198 [.r,.r,.r,.r,.r,.r,.r,.r,.r,.l,.l,.l,.l,.r,.l,.l,.l,.l,.l]
def B10 (P : PT) (N3 : NTy k2 Pr) (N8 : NTy k2 Pr) (x0 : Value) (x1 : Int) (x4 : Value) (x12 x13 : Int) (H : AHeap) : Prop :=
  pif (decide ((x12 : Int) ≤ x13)) (idxK x0 x13 1 (fun b1 o2 => ldI .u64 H b1 o2 (fun v3 => idxK x0 x1 1 (fun b4 o5 => ldI .u64 H b4 o5 (fun v6 => callV Try.prog T0 x4 [(Value.int .u64 v3), (Value.int .u64 v6)] H (fun v7 H8 => asI .i64 v7 (fun v9 => pif (!(decide ((v9 : Int) < 0))) (B9 P N3 N8 x0 x1 x4 x12 x13 H8) (B7 P N3 x0 x1 x4 x12 x13 H8)))))))) (B7 P N3 x0 x1 x4 x12 x13 H)
theorem q10 (P : PT) (N3 : NTy k2 Pr) (N8 : NTy k2 Pr) : QD Try.prog T0 178 o10 [(0, false), (1, false), (2, false), (3, false), (4, false), (5, false), (6, false), (7, false), (8, false), (9, false), (10, false), (11, false), (12, false), (13, false), (14, false), (15, false), (16, false)] (cnd 139 (En 178 k2 (B9 P N3 N8)) (En 178 k2 (B7 P N3))) k2 (B10 P N3 N8) := fun _ _ _ _ _ _ _  => by kernel_rfl
def L8 (P : PT) (N3 : NTy k2 Pr) (x0 : Value) (x1 : Int) (x4 : Value) (x12 x13 : Int) (H : AHeap) : Prop :=
  ∃ (I : NTy k2 Pr) (μ : NTy k2 (AHeap → Nat)), I x0 x1 x4 x12 x13 H ∧ ∀ y0 y1 y4 y12 y13 G, I y0 y1 y4 y12 y13 G → B10 P N3 (fun z0 z1 z4 z12 z13 G' => I z0 z1 z4 z12 z13 G' ∧ μ z0 z1 z4 z12 z13 G' < μ y0 y1 y4 y12 y13 G) y0 y1 y4 y12 y13 G
theorem l8 (P : PT) (N3 : NTy k2 Pr) : LQ k2 (L8 P N3) (B10 P N3) := fun ⟨_,_,_,_,_,_⟩ _ ⟨I, μ, h0, hI⟩ => ⟨apT _ I, apT _ μ, h0, fun ⟨_,_,_,_,_,_⟩ _ h => hI _ _ _ _ _ _  h⟩
noncomputable def o12 := ob Try.f198 [.r,.r,.r,.r,.r,.r,.r,.r,.r,.l,.l,.l,.l,.l,.l,.l,.r,.l]
def B12 (P : PT) (N3 : NTy k2 Pr) (N11 : NTy k2 Pr) (x0 : Value) (x1 : Int) (x4 : Value) (x12 x13 : Int) (H : AHeap) : Prop :=
  N11 x0 x1 x4 (IntKind.i64.wrap (x12 + 1)) x13 H
theorem q12 (P : PT) (N3 : NTy k2 Pr) (N11 : NTy k2 Pr) : QB Try.prog T0 178 o12 (En 178 k2 N11) k2 (B12 P N3 N11) := fun _ _ _ _ _ _ _  => by kernel_rfl
noncomputable def o13 := ob Try.f198 [.r,.r,.r,.r,.r,.r,.r,.r,.r,.l,.l,.l,.l,.l,.l,.l,.l,.l]
def B13 (P : PT) (N3 : NTy k2 Pr) (N11 : NTy k2 Pr) (x0 : Value) (x1 : Int) (x4 : Value) (x12 x13 : Int) (H : AHeap) : Prop :=
  pif (decide ((x12 : Int) ≤ x13)) (idxK x0 x12 1 (fun b1 o2 => ldI .u64 H b1 o2 (fun v3 => idxK x0 x1 1 (fun b4 o5 => ldI .u64 H b4 o5 (fun v6 => callV Try.prog T0 x4 [(Value.int .u64 v3), (Value.int .u64 v6)] H (fun v7 H8 => asI .i64 v7 (fun v9 => pif (decide ((v9 : Int) < 0)) (B12 P N3 N11 x0 x1 x4 x12 x13 H8) (L8 P N3 x0 x1 x4 x12 x13 H8)))))))) (L8 P N3 x0 x1 x4 x12 x13 H)
theorem q13 (P : PT) (N3 : NTy k2 Pr) (N11 : NTy k2 Pr) : QD Try.prog T0 178 o13 [(0, false), (1, false), (2, false), (3, false), (4, false), (5, false), (6, false), (7, false), (8, false), (9, false), (10, false), (11, false), (12, false), (13, false), (14, false), (15, false)] (cnd 120 (En 178 k2 (B12 P N3 N11)) (En 178 k2 (L8 P N3))) k2 (B13 P N3 N11) := fun _ _ _ _ _ _ _  => by kernel_rfl
def L11 (P : PT) (N3 : NTy k2 Pr) (x0 : Value) (x1 : Int) (x4 : Value) (x12 x13 : Int) (H : AHeap) : Prop :=
  ∃ (I : NTy k2 Pr) (μ : NTy k2 (AHeap → Nat)), I x0 x1 x4 x12 x13 H ∧ ∀ y0 y1 y4 y12 y13 G, I y0 y1 y4 y12 y13 G → B13 P N3 (fun z0 z1 z4 z12 z13 G' => I z0 z1 z4 z12 z13 G' ∧ μ z0 z1 z4 z12 z13 G' < μ y0 y1 y4 y12 y13 G) y0 y1 y4 y12 y13 G
theorem l11 (P : PT) (N3 : NTy k2 Pr) : LQ k2 (L11 P N3) (B13 P N3) := fun ⟨_,_,_,_,_,_⟩ _ ⟨I, μ, h0, hI⟩ => ⟨apT _ I, apT _ μ, h0, fun ⟨_,_,_,_,_,_⟩ _ h => hI _ _ _ _ _ _  h⟩
def L3 (P : PT) (x0 : Value) (x1 : Int) (x4 : Value) (x12 x13 : Int) (H : AHeap) : Prop :=
  ∃ (I : NTy k2 Pr) (μ : NTy k2 (AHeap → Nat)), I x0 x1 x4 x12 x13 H ∧ ∀ y0 y1 y4 y12 y13 G, I y0 y1 y4 y12 y13 G → L11 P (fun z0 z1 z4 z12 z13 G' => I z0 z1 z4 z12 z13 G' ∧ μ z0 z1 z4 z12 z13 G' < μ y0 y1 y4 y12 y13 G) y0 y1 y4 y12 y13 G
theorem l3 (P : PT) : LQ k2 (L3 P) (L11 P) := fun ⟨_,_,_,_,_,_⟩ _ ⟨I, μ, h0, hI⟩ => ⟨apT _ I, apT _ μ, h0, fun ⟨_,_,_,_,_,_⟩ _ h => hI _ _ _ _ _ _  h⟩
noncomputable def o14 := ob Try.f198 [.r,.r,.r,.r,.r,.r,.r,.r,.l]
def B14 (P : PT) (x0 : Value) (x1 : Int) (x4 : Value) (x12 x13 : Int) (H : AHeap) : Prop :=
  L3 P x0 x1 x4 x12 (IntKind.i64.wrap (x13 - 1)) H
theorem q14 (P : PT) : QB Try.prog T0 178 o14 (En 178 k2 (L3 P)) k2 (B14 P) := fun _ _ _ _ _ _ _  => by kernel_rfl
noncomputable def o15 := ob Try.f198 [.r,.r,.r,.r,.r,.r,.r,.l]
def B15 (P : PT) (x0 : Value) (x1 : Int) (x4 : Value) (x12 x13 : Int) (H : AHeap) : Prop :=
  B14 P x0 x1 x4 (IntKind.i64.wrap (x12 + 1)) x13 H
theorem q15 (P : PT) : QB Try.prog T0 178 o15 (En 178 k2 (B14 P)) k2 (B15 P) := fun _ _ _ _ _ _ _  => by kernel_rfl
noncomputable def o16 := ob Try.f198 [.r,.r,.r,.r,.r,.r,.l]
def B16 (P : PT) (x0 : Value) (x1 : Int) (x4 : Value) (x12 x13 : Int) (H : AHeap) : Prop :=
  idxK x0 x13 1 (fun b1 o2 => ldI .u64 H b1 o2 (fun v3 => idxK x0 x12 1 (fun b4 o5 => ldI .u64 H b4 o5 (fun v6 => idxK x0 x12 1 (fun b7 o8 => stK H b7 o8 [(Value.int .u64 v3)] (fun H9 => idxK x0 x13 1 (fun b10 o11 => stK H9 b10 o11 [(Value.int .u64 v6)] (fun H12 => B15 P x0 x1 x4 x12 x13 H12))))))))
theorem q16 (P : PT) : QD Try.prog T0 178 o16 [(0, false), (1, false), (2, false), (3, false), (4, false), (5, false), (6, false), (7, false), (8, false), (9, false), (10, false), (11, false), (12, false), (13, false), (14, false), (15, false)] (En 178 k2 (B15 P)) k2 (B16 P) := fun _ _ _ _ _ _ _  => by kernel_rfl
noncomputable def o17 := ob Try.f198 [.r,.r,.r,.r,.r,.l,.r,.l,.r,.l]
def B17 (P : PT) (x13 : Int) (H : AHeap) : Prop :=
  P (Value.tuple ⟨[(Value.int .i64 x13), (Value.bool true)]⟩) H
theorem q17 (P : PT) : QB Try.prog T0 178 o17 (ret P) k0 (B17 P) := fun _ _ _  => by kernel_rfl
noncomputable def o18 := ob Try.f198 [.r,.r,.r,.r,.r,.l,.r,.l,.l]
def B18 (P : PT) (x0 : Value) (x1 x13 : Int) (H : AHeap) : Prop :=
  idxK x0 x1 1 (fun b1 o2 => ldI .u64 H b1 o2 (fun v3 => idxK x0 x13 1 (fun b4 o5 => ldI .u64 H b4 o5 (fun v6 => idxK x0 x13 1 (fun b7 o8 => stK H b7 o8 [(Value.int .u64 v3)] (fun H9 => idxK x0 x1 1 (fun b10 o11 => stK H9 b10 o11 [(Value.int .u64 v6)] (fun H12 => B17 P x13 H12))))))))
theorem q18 (P : PT) : QD Try.prog T0 178 o18 [(0, false), (1, false), (2, false), (3, false), (4, false), (5, false), (6, false), (7, false), (8, false), (9, false), (10, false), (11, false), (12, false), (13, false), (14, false), (15, false)] (En 178 k0 (B17 P)) k1 (B18 P) := fun _ _ _ _ _  => by kernel_rfl
noncomputable def o19 := ob Try.f198 [.r,.r,.r,.r,.r,.l,.l]
def B19 (P : PT) (x0 : Value) (x1 : Int) (x4 : Value) (x12 x13 : Int) (H : AHeap) : Prop :=
  pif (decide ((x12 : Int) > x13)) (B18 P x0 x1 x13 H) (B16 P x0 x1 x4 x12 x13 H)
theorem q19 (P : PT) : QB Try.prog T0 178 o19 (cnd 71 (En 178 k1 (B18 P)) (En 178 k2 (B16 P))) k2 (B19 P) := fun _ _ _ _ _ _ _  => by kernel_rfl
noncomputable def o21 := ob Try.f198 [.r,.r,.r,.r,.l,.l,.l,.r,.l]
def B21 (P : PT) (N20 : NTy k2 Pr) (x0 : Value) (x1 : Int) (x4 : Value) (x12 x13 : Int) (H : AHeap) : Prop :=
  N20 x0 x1 x4 x12 (IntKind.i64.wrap (x13 - 1)) H
theorem q21 (P : PT) (N20 : NTy k2 Pr) : QB Try.prog T0 178 o21 (En 178 k2 N20) k2 (B21 P N20) := fun _ _ _ _ _ _ _  => by kernel_rfl
noncomputable def o22 := ob Try.f198 [.r,.r,.r,.r,.l,.l,.l,.l,.l]
def B22 (P : PT) (N20 : NTy k2 Pr) (x0 : Value) (x1 : Int) (x4 : Value) (x12 x13 : Int) (H : AHeap) : Prop :=
  pif (decide ((x12 : Int) ≤ x13)) (idxK x0 x13 1 (fun b1 o2 => ldI .u64 H b1 o2 (fun v3 => idxK x0 x1 1 (fun b4 o5 => ldI .u64 H b4 o5 (fun v6 => callV Try.prog T0 x4 [(Value.int .u64 v3), (Value.int .u64 v6)] H (fun v7 H8 => asI .i64 v7 (fun v9 => pif (!(decide ((v9 : Int) < 0))) (B21 P N20 x0 x1 x4 x12 x13 H8) (B19 P x0 x1 x4 x12 x13 H8)))))))) (B19 P x0 x1 x4 x12 x13 H)
theorem q22 (P : PT) (N20 : NTy k2 Pr) : QD Try.prog T0 178 o22 [(0, false), (1, false), (2, false), (3, false), (4, false), (5, false), (6, false), (7, false), (8, false), (9, false), (10, false), (11, false), (12, false), (13, false), (14, false), (15, false), (16, false)] (cnd 66 (En 178 k2 (B21 P N20)) (En 178 k2 (B19 P))) k2 (B22 P N20) := fun _ _ _ _ _ _ _  => by kernel_rfl
def L20 (P : PT) (x0 : Value) (x1 : Int) (x4 : Value) (x12 x13 : Int) (H : AHeap) : Prop :=
  ∃ (I : NTy k2 Pr) (μ : NTy k2 (AHeap → Nat)), I x0 x1 x4 x12 x13 H ∧ ∀ y0 y1 y4 y12 y13 G, I y0 y1 y4 y12 y13 G → B22 P (fun z0 z1 z4 z12 z13 G' => I z0 z1 z4 z12 z13 G' ∧ μ z0 z1 z4 z12 z13 G' < μ y0 y1 y4 y12 y13 G) y0 y1 y4 y12 y13 G
theorem l20 (P : PT) : LQ k2 (L20 P) (B22 P) := fun ⟨_,_,_,_,_,_⟩ _ ⟨I, μ, h0, hI⟩ => ⟨apT _ I, apT _ μ, h0, fun ⟨_,_,_,_,_,_⟩ _ h => hI _ _ _ _ _ _  h⟩
noncomputable def o24 := ob Try.f198 [.r,.r,.r,.l,.l,.l,.r,.l]
def B24 (P : PT) (N23 : NTy k2 Pr) (x0 : Value) (x1 : Int) (x4 : Value) (x12 x13 : Int) (H : AHeap) : Prop :=
  N23 x0 x1 x4 (IntKind.i64.wrap (x12 + 1)) x13 H
theorem q24 (P : PT) (N23 : NTy k2 Pr) : QB Try.prog T0 178 o24 (En 178 k2 N23) k2 (B24 P N23) := fun _ _ _ _ _ _ _  => by kernel_rfl
noncomputable def o25 := ob Try.f198 [.r,.r,.r,.l,.l,.l,.l,.l]
def B25 (P : PT) (N23 : NTy k2 Pr) (x0 : Value) (x1 : Int) (x4 : Value) (x12 x13 : Int) (H : AHeap) : Prop :=
  pif (decide ((x12 : Int) ≤ x13)) (idxK x0 x12 1 (fun b1 o2 => ldI .u64 H b1 o2 (fun v3 => idxK x0 x1 1 (fun b4 o5 => ldI .u64 H b4 o5 (fun v6 => callV Try.prog T0 x4 [(Value.int .u64 v3), (Value.int .u64 v6)] H (fun v7 H8 => asI .i64 v7 (fun v9 => pif (decide ((v9 : Int) < 0)) (B24 P N23 x0 x1 x4 x12 x13 H8) (L20 P x0 x1 x4 x12 x13 H8)))))))) (L20 P x0 x1 x4 x12 x13 H)
theorem q25 (P : PT) (N23 : NTy k2 Pr) : QD Try.prog T0 178 o25 [(0, false), (1, false), (2, false), (3, false), (4, false), (5, false), (6, false), (7, false), (8, false), (9, false), (10, false), (11, false), (12, false), (13, false), (14, false), (15, false)] (cnd 47 (En 178 k2 (B24 P N23)) (En 178 k2 (L20 P))) k2 (B25 P N23) := fun _ _ _ _ _ _ _  => by kernel_rfl
def L23 (P : PT) (x0 : Value) (x1 : Int) (x4 : Value) (x12 x13 : Int) (H : AHeap) : Prop :=
  ∃ (I : NTy k2 Pr) (μ : NTy k2 (AHeap → Nat)), I x0 x1 x4 x12 x13 H ∧ ∀ y0 y1 y4 y12 y13 G, I y0 y1 y4 y12 y13 G → B25 P (fun z0 z1 z4 z12 z13 G' => I z0 z1 z4 z12 z13 G' ∧ μ z0 z1 z4 z12 z13 G' < μ y0 y1 y4 y12 y13 G) y0 y1 y4 y12 y13 G
theorem l23 (P : PT) : LQ k2 (L23 P) (B25 P) := fun ⟨_,_,_,_,_,_⟩ _ ⟨I, μ, h0, hI⟩ => ⟨apT _ I, apT _ μ, h0, fun ⟨_,_,_,_,_,_⟩ _ h => hI _ _ _ _ _ _  h⟩
abbrev k3 : Sk := [(0,.v),(1,.i .i64),(2,.i .i64),(4,.v)]
noncomputable def o26 := ob Try.f198 [.r,.r,.l]
def B26 (P : PT) (x0 : Value) (x1 x2 : Int) (x4 : Value) (H : AHeap) : Prop :=
  L23 P x0 x1 x4 (IntKind.i64.wrap (x1 + 1)) (IntKind.i64.wrap (x2 - 1)) H
theorem q26 (P : PT) : QB Try.prog T0 178 o26 (En 178 k2 (L23 P)) k3 (B26 P) := fun _ _ _ _ _ _  => by kernel_rfl
abbrev k4 : Sk := [(0,.v),(1,.i .i64),(2,.i .i64),(3,.i .i64),(4,.v)]
noncomputable def o27 := ob Try.f198 [.r,.l]
def B27 (P : PT) (x0 : Value) (x1 x2 x3 : Int) (x4 : Value) (H : AHeap) : Prop :=
  idxK x0 x3 1 (fun b1 o2 => ldI .u64 H b1 o2 (fun v3 => idxK x0 x1 1 (fun b4 o5 => ldI .u64 H b4 o5 (fun v6 => idxK x0 x1 1 (fun b7 o8 => stK H b7 o8 [(Value.int .u64 v3)] (fun H9 => idxK x0 x3 1 (fun b10 o11 => stK H9 b10 o11 [(Value.int .u64 v6)] (fun H12 => B26 P x0 x1 x2 x4 H12))))))))
theorem q27 (P : PT) : QD Try.prog T0 178 o27 [(0, false), (1, false), (2, false), (3, false), (4, false), (5, false), (6, false), (7, false), (8, false), (9, false), (10, false), (11, false), (12, false), (13, false), (14, false), (15, false)] (En 178 k3 (B26 P)) k4 (B27 P) := fun _ _ _ _ _ _ _  => by kernel_rfl
noncomputable def o28 := ob Try.f198 [.l]
def B28 (P : PT) (x0 : Value) (x1 x2 x3 : Int) (x4 : Value) (H : AHeap) : Prop :=
  B27 P x0 x1 x2 x3 x4 H
theorem q28 (P : PT) : QB Try.prog T0 178 o28 (En 178 k4 (B27 P)) k4 (B28 P) := fun _ _ _ _ _ _ _  => by kernel_rfl
noncomputable def code : Code := (.seq (.region 0 ⟨o28⟩ false) (.seq (.region 1 ⟨o27⟩ true) (.seq (.region 2 ⟨o26⟩ false) (.seq (.block 0 (.loop (.seq (.seq (.region 3 ⟨o25⟩ true) (.cond (.tmp 47) .skip (.exit 0))) (.block 1 (.region 4 ⟨o24⟩ false))))) (.seq (.block 2 (.loop (.seq (.seq (.region 5 ⟨o22⟩ true) (.cond (.tmp 66) .skip (.exit 2))) (.block 3 (.region 6 ⟨o21⟩ false))))) (.seq (.seq (.region 7 ⟨o19⟩ false) (.cond (.tmp 71) (.seq (.region 8 ⟨o18⟩ true) (.seq (.region 9 ⟨o17⟩ false) .ret)) .skip)) (.seq (.region 10 ⟨o16⟩ true) (.seq (.region 11 ⟨o15⟩ false) (.seq (.region 12 ⟨o14⟩ false) (.seq (.block 4 (.loop (.block 5 (.seq (.block 6 (.loop (.seq (.seq (.region 13 ⟨o13⟩ true) (.cond (.tmp 120) .skip (.exit 6))) (.block 7 (.region 14 ⟨o12⟩ false))))) (.seq (.block 8 (.loop (.seq (.seq (.region 15 ⟨o10⟩ true) (.cond (.tmp 139) .skip (.exit 8))) (.block 9 (.region 16 ⟨o9⟩ false))))) (.seq (.seq (.region 17 ⟨o7⟩ false) (.cond (.tmp 144) (.exit 4) .skip)) (.seq (.region 18 ⟨o6⟩ true) (.seq (.region 19 ⟨o5⟩ false) (.region 20 ⟨o4⟩ false))))))))) (.seq (.region 21 ⟨o2⟩ true) (.seq (.region 22 ⟨o1⟩ false) .ret))))))))))))
theorem body : Try.f198.body = some code := by kernel_rfl
theorem main (P : PT) : ∀ env H, (En 178 k4 (B28 P)) env H → AW Try.prog T0 code env H (mkQ (ret P) (fun _ _ _ => False) (ret P)) :=
  (r_seq (rB T0_ok (q28 P)) (r_seq (rD T0_ok mixed [(0, false), (1, false), (2, false), (3, false), (4, false), (5, false), (6, false), (7, false), (8, false), (9, false), (10, false), (11, false), (12, false), (13, false), (14, false), (15, false)] (by kernel_rfl) (q27 P)) (r_seq (rB T0_ok (q26 P)) (r_seq (r_block (rL (l23 P) (fun N23 => (r_seq (r_seq (rD T0_ok mixed [(0, false), (1, false), (2, false), (3, false), (4, false), (5, false), (6, false), (7, false), (8, false), (9, false), (10, false), (11, false), (12, false), (13, false), (14, false), (15, false)] (by kernel_rfl) (q25 P N23)) (r_cond rfl r_skip (r_exit (fun _ _ h => h)))) (r_block (rB T0_ok (q24 P N23))))))) (r_seq (r_block (rL (l20 P) (fun N20 => (r_seq (r_seq (rD T0_ok mixed [(0, false), (1, false), (2, false), (3, false), (4, false), (5, false), (6, false), (7, false), (8, false), (9, false), (10, false), (11, false), (12, false), (13, false), (14, false), (15, false), (16, false)] (by kernel_rfl) (q22 P N20)) (r_cond rfl r_skip (r_exit (fun _ _ h => h)))) (r_block (rB T0_ok (q21 P N20))))))) (r_seq (r_seq (rB T0_ok (q19 P)) (r_cond rfl (r_seq (rD T0_ok mixed [(0, false), (1, false), (2, false), (3, false), (4, false), (5, false), (6, false), (7, false), (8, false), (9, false), (10, false), (11, false), (12, false), (13, false), (14, false), (15, false)] (by kernel_rfl) (q18 P)) (r_seq (rB T0_ok (q17 P)) r_ret)) r_skip)) (r_seq (rD T0_ok mixed [(0, false), (1, false), (2, false), (3, false), (4, false), (5, false), (6, false), (7, false), (8, false), (9, false), (10, false), (11, false), (12, false), (13, false), (14, false), (15, false)] (by kernel_rfl) (q16 P)) (r_seq (rB T0_ok (q15 P)) (r_seq (rB T0_ok (q14 P)) (r_seq (r_block (rL (l3 P) (fun N3 => (r_block (r_seq (r_block (rL (l11 P N3) (fun N11 => (r_seq (r_seq (rD T0_ok mixed [(0, false), (1, false), (2, false), (3, false), (4, false), (5, false), (6, false), (7, false), (8, false), (9, false), (10, false), (11, false), (12, false), (13, false), (14, false), (15, false)] (by kernel_rfl) (q13 P N3 N11)) (r_cond rfl r_skip (r_exit (fun _ _ h => h)))) (r_block (rB T0_ok (q12 P N3 N11))))))) (r_seq (r_block (rL (l8 P N3) (fun N8 => (r_seq (r_seq (rD T0_ok mixed [(0, false), (1, false), (2, false), (3, false), (4, false), (5, false), (6, false), (7, false), (8, false), (9, false), (10, false), (11, false), (12, false), (13, false), (14, false), (15, false), (16, false)] (by kernel_rfl) (q10 P N3 N8)) (r_cond rfl r_skip (r_exit (fun _ _ h => h)))) (r_block (rB T0_ok (q9 P N3 N8))))))) (r_seq (r_seq (rB T0_ok (q7 P N3)) (r_cond rfl (r_exit (fun _ _ h => h)) r_skip)) (r_seq (rD T0_ok mixed [(0, false), (1, false), (2, false), (3, false), (4, false), (5, false), (6, false), (7, false), (8, false), (9, false), (10, false), (11, false), (12, false), (13, false), (14, false), (15, false)] (by kernel_rfl) (q6 P N3)) (r_seq (rB T0_ok (q5 P N3)) (rB T0_ok (q4 P N3))))))))))) (r_seq (rD T0_ok mixed [(0, false), (1, false), (2, false), (3, false), (4, false), (5, false), (6, false), (7, false), (8, false), (9, false), (10, false), (11, false), (12, false), (13, false), (14, false), (15, false)] (by kernel_rfl) (q2 P)) (r_seq (rB T0_ok (q1 P)) r_ret))))))))))))
theorem ac (P : PT) (x0 : Value) (x1 x2 x3 : Int) (x4 : Value) (H : AHeap) (h : B28 P x0 x1 x2 x3 x4 H) : AC Try.prog T0 198 [x0, (Value.int .i64 x1), (Value.int .i64 x2), (Value.int .i64 x3), x4] H P :=
  r_fn T0_ok (c := code) (n := 178) Try.func198 body (by kernel_rfl) (main P) (En_mk (x0, x1, x2, x3, x4, ()) (by kernel_rfl) ⟨by kernel_rfl, by kernel_rfl, by kernel_rfl, by kernel_rfl, by kernel_rfl, trivial⟩ h)

end F198
-- math/bits.Mul
namespace F208
noncomputable def ret (P : PT) : EP := retE T0 30 Try.f208 P
abbrev k0 : Sk := [(8,.i .u64),(9,.i .u64)]
noncomputable def o1 := ob Try.f208 [.r,.r,.r,.l]
def B1 (P : PT) (x8 x9 : Int) (H : AHeap) : Prop :=
  P (Value.tuple ⟨[(Value.int .u64 x8), (Value.int .u64 x9)]⟩) H
theorem q1 (P : PT) : QB Try.prog T0 30 o1 (ret P) k0 (B1 P) := fun _ _ _ _  => by kernel_rfl
abbrev k1 : Sk := [(0,.i .u64),(1,.i .u64)]
noncomputable def o2 := ob Try.f208 [.r,.r,.l]
def B2 (P : PT) (x0 x1 : Int) (H : AHeap) : Prop :=
  AC Try.prog T0 216 [(Value.int .u64 x0), (Value.int .u64 x1)] H (fun v1 H2 => tup2 v1 (fun v3 v4 => asI .u64 v3 (fun v5 => asI .u64 v4 (fun v6 => B1 P v5 v6 H2))))
theorem q2 (P : PT) : QB Try.prog T0 30 o2 (En 30 k0 (B1 P)) k1 (B2 P) := fun _ _ _ _  => by kernel_rfl
noncomputable def o3 := ob Try.f208 [.l]
def B3 (P : PT) (x0 x1 : Int) (H : AHeap) : Prop :=
  B2 P x0 x1 H
theorem q3 (P : PT) : QB Try.prog T0 30 o3 (En 30 k1 (B2 P)) k1 (B3 P) := fun _ _ _ _  => by kernel_rfl
noncomputable def code : Code := (.seq (.region 0 ⟨o3⟩ false) (.seq (.cond (.const (.bool false)) (codeAt (bodyOf Try.f208) [.r,.l,.l]) .skip) (.seq (.region 3 ⟨o2⟩ false) (.seq (.region 4 ⟨o1⟩ false) .ret))))
theorem body : Try.f208.body = some code := by kernel_rfl
theorem main (P : PT) : ∀ env H, (En 30 k1 (B3 P)) env H → AW Try.prog T0 code env H (mkQ (ret P) (fun _ _ _ => False) (ret P)) :=
  (r_seq (rB T0_ok (q3 P)) (r_seq (r_condF r_skip) (r_seq (rB T0_ok (q2 P)) (r_seq (rB T0_ok (q1 P)) r_ret))))
theorem ac (P : PT) (x0 x1 : Int) (H : AHeap) (h : B3 P x0 x1 H) : AC Try.prog T0 208 [(Value.int .u64 x0), (Value.int .u64 x1)] H P :=
  r_fn T0_ok (c := code) (n := 30) Try.func208 body (by kernel_rfl) (main P) (En_mk (x0, x1, ()) (by kernel_rfl) ⟨by kernel_rfl, by kernel_rfl, trivial⟩ h)

end F208
-- slices.siftDownCmpFunc[loop.example/g01329/impl.set]
namespace F209
noncomputable def ret (P : PT) : EP := retE T0 82 Try.f209 P
abbrev k0 : Sk := [(0,.v),(2,.i .i64),(3,.i .i64),(4,.v),(10,.i .i64)]
abbrev k1 : Sk := [(0,.v),(2,.i .i64),(3,.i .i64),(4,.v),(11,.i .i64)]
noncomputable def o2 := ob Try.f209 [.r,.l,.l,.l,.r,.r,.r,.r,.r]
def B2 (P : PT) (N1 : NTy k0 Pr) (x0 : Value) (x2 x3 : Int) (x4 : Value) (x11 : Int) (H : AHeap) : Prop :=
  N1 x0 x2 x3 x4 x11 H
theorem q2 (P : PT) (N1 : NTy k0 Pr) : QB Try.prog T0 82 o2 (En 82 k0 N1) k1 (B2 P N1) := fun _ _ _ _ _ _ _  => by kernel_rfl
abbrev k2 : Sk := [(0,.v),(2,.i .i64),(3,.i .i64),(4,.v),(10,.i .i64),(11,.i .i64)]
noncomputable def o3 := ob Try.f209 [.r,.l,.l,.l,.r,.r,.r,.r,.l]
def B3 (P : PT) (N1 : NTy k0 Pr) (x0 : Value) (x2 x3 : Int) (x4 : Value) (x10 x11 : Int) (H : AHeap) : Prop :=
  idxK x0 (IntKind.i64.wrap (x3 + x11)) 1 (fun b1 o2 => ldI .u64 H b1 o2 (fun v3 => idxK x0 (IntKind.i64.wrap (x3 + x10)) 1 (fun b4 o5 => ldI .u64 H b4 o5 (fun v6 => idxK x0 (IntKind.i64.wrap (x3 + x10)) 1 (fun b7 o8 => stK H b7 o8 [(Value.int .u64 v3)] (fun H9 => idxK x0 (IntKind.i64.wrap (x3 + x11)) 1 (fun b10 o11 => stK H9 b10 o11 [(Value.int .u64 v6)] (fun H12 => B2 P N1 x0 x2 x3 x4 x11 H12))))))))
theorem q3 (P : PT) (N1 : NTy k0 Pr) : QD Try.prog T0 82 o3 [(0, false), (1, false), (2, false), (3, false), (4, false), (5, false), (6, false), (7, false), (8, false), (9, false), (10, false), (11, false), (12, false), (13, false), (14, false), (15, false), (16, false), (17, false), (18, false), (19, false), (20, false), (21, false), (22, false), (23, false)] (En 82 k1 (B2 P N1)) k2 (B3 P N1) := fun _ _ _ _ _ _ _ _  => by kernel_rfl
noncomputable def o4 := ob Try.f209 [.r,.l,.l,.l,.r,.r,.r,.l,.l]
def B4 (P : PT) (N1 : NTy k0 Pr) (x0 : Value) (x2 x3 : Int) (x4 : Value) (x10 x11 : Int) (H : AHeap) : Prop :=
  idxK x0 (IntKind.i64.wrap (x3 + x10)) 1 (fun b1 o2 => ldI .u64 H b1 o2 (fun v3 => idxK x0 (IntKind.i64.wrap (x3 + x11)) 1 (fun b4 o5 => ldI .u64 H b4 o5 (fun v6 => callV Try.prog T0 x4 [(Value.int .u64 v3), (Value.int .u64 v6)] H (fun v7 H8 => asI .i64 v7 (fun v9 => pif (!(decide ((v9 : Int) < 0))) (P (Value.tuple ⟨[]⟩) H8) (B3 P N1 x0 x2 x3 x4 x10 x11 H8)))))))
theorem q4 (P : PT) (N1 : NTy k0 Pr) : QD Try.prog T0 82 o4 [(0, false), (1, false), (2, false), (3, false), (4, false), (5, false), (6, false), (7, false), (8, false), (9, false), (10, false), (11, false), (12, false), (13, false), (14, false), (15, false)] (cnd 58 (ret P) (En 82 k2 (B3 P N1))) k2 (B4 P N1) := fun _ _ _ _ _ _ _ _  => by kernel_rfl
noncomputable def o5 := ob Try.f209 [.r,.l,.l,.l,.r,.r,.l,.r,.l]
def B5 (P : PT) (N1 : NTy k0 Pr) (x0 : Value) (x2 x3 : Int) (x4 : Value) (x10 x11 : Int) (H : AHeap) : Prop :=
  B4 P N1 x0 x2 x3 x4 x10 (IntKind.i64.wrap (x11 + 1)) H
theorem q5 (P : PT) (N1 : NTy k0 Pr) : QB Try.prog T0 82 o5 (En 82 k2 (B4 P N1)) k2 (B5 P N1) := fun _ _ _ _ _ _ _ _  => by kernel_rfl
noncomputable def o6 := ob Try.f209 [.r,.l,.l,.l,.r,.r,.l,.l]
def B6 (P : PT) (N1 : NTy k0 Pr) (x0 : Value) (x2 x3 : Int) (x4 : Value) (x10 x11 : Int) (H : AHeap) : Prop :=
  pif (decide ((IntKind.i64.wrap (x11 + 1) : Int) < x2)) (idxK x0 (IntKind.i64.wrap (x3 + x11)) 1 (fun b1 o2 => ldI .u64 H b1 o2 (fun v3 => idxK x0 (IntKind.i64.wrap ((IntKind.i64.wrap (x3 + x11)) + 1)) 1 (fun b4 o5 => ldI .u64 H b4 o5 (fun v6 => callV Try.prog T0 x4 [(Value.int .u64 v3), (Value.int .u64 v6)] H (fun v7 H8 => asI .i64 v7 (fun v9 => pif (decide ((v9 : Int) < 0)) (B5 P N1 x0 x2 x3 x4 x10 x11 H8) (B4 P N1 x0 x2 x3 x4 x10 x11 H8)))))))) (B4 P N1 x0 x2 x3 x4 x10 x11 H)
theorem q6 (P : PT) (N1 : NTy k0 Pr) : QD Try.prog T0 82 o6 [(0, false), (1, false), (2, false), (3, false), (4, false), (5, false), (6, false), (7, false), (8, false), (9, false), (10, false), (11, false), (12, false), (13, false), (14, false), (15, false), (16, false), (17, false), (18, false), (19, false), (20, false), (21, false)] (cnd 40 (En 82 k2 (B5 P N1)) (En 82 k2 (B4 P N1))) k2 (B6 P N1) := fun _ _ _ _ _ _ _ _  => by kernel_rfl
noncomputable def o7 := ob Try.f209 [.r,.l,.l,.l,.r,.l,.l]
def B7 (P : PT) (N1 : NTy k0 Pr) (x0 : Value) (x2 x3 : Int) (x4 : Value) (x10 x11 : Int) (H : AHeap) : Prop :=
  pif (decide ((x11 : Int) ≥ x2)) (P (Value.tuple ⟨[]⟩) H) (B6 P N1 x0 x2 x3 x4 x10 x11 H)
theorem q7 (P : PT) (N1 : NTy k0 Pr) : QB Try.prog T0 82 o7 (cnd 18 (ret P) (En 82 k2 (B6 P N1))) k2 (B7 P N1) := fun _ _ _ _ _ _ _ _  => by kernel_rfl
noncomputable def o8 := ob Try.f209 [.r,.l,.l,.l,.l]
def B8 (P : PT) (N1 : NTy k0 Pr) (x0 : Value) (x2 x3 : Int) (x4 : Value) (x10 : Int) (H : AHeap) : Prop :=
  B7 P N1 x0 x2 x3 x4 x10 (IntKind.i64.wrap ((IntKind.i64.wrap (2 * x10)) + 1)) H
theorem q8 (P : PT) (N1 : NTy k0 Pr) : QB Try.prog T0 82 o8 (En 82 k2 (B7 P N1)) k0 (B8 P N1) := fun _ _ _ _ _ _ _  => by kernel_rfl
def L1 (P : PT) (x0 : Value) (x2 x3 : Int) (x4 : Value) (x10 : Int) (H : AHeap) : Prop :=
  ∃ (I : NTy k0 Pr) (μ : NTy k0 (AHeap → Nat)), I x0 x2 x3 x4 x10 H ∧ ∀ y0 y2 y3 y4 y10 G, I y0 y2 y3 y4 y10 G → B8 P (fun z0 z2 z3 z4 z10 G' => I z0 z2 z3 z4 z10 G' ∧ μ z0 z2 z3 z4 z10 G' < μ y0 y2 y3 y4 y10 G) y0 y2 y3 y4 y10 G
theorem l1 (P : PT) : LQ k0 (L1 P) (B8 P) := fun ⟨_,_,_,_,_,_⟩ _ ⟨I, μ, h0, hI⟩ => ⟨apT _ I, apT _ μ, h0, fun ⟨_,_,_,_,_,_⟩ _ h => hI _ _ _ _ _ _  h⟩
abbrev k3 : Sk := [(0,.v),(1,.i .i64),(2,.i .i64),(3,.i .i64),(4,.v)]
noncomputable def o9 := ob Try.f209 [.l]
def B9 (P : PT) (x0 : Value) (x1 x2 x3 : Int) (x4 : Value) (H : AHeap) : Prop :=
  L1 P x0 x2 x3 x4 x1 H
theorem q9 (P : PT) : QB Try.prog T0 82 o9 (En 82 k0 (L1 P)) k3 (B9 P) := fun _ _ _ _ _ _ _  => by kernel_rfl
noncomputable def code : Code := (.seq (.region 0 ⟨o9⟩ false) (.block 0 (.loop (.block 1 (.seq (.region 1 ⟨o8⟩ false) (.seq (.seq (.region 2 ⟨o7⟩ false) (.cond (.tmp 18) (.exit 0) .skip)) (.seq (.seq (.region 3 ⟨o6⟩ true) (.cond (.tmp 40) (.region 4 ⟨o5⟩ false) .skip)) (.seq (.seq (.region 5 ⟨o4⟩ true) (.cond (.tmp 58) .ret .skip)) (.seq (.region 6 ⟨o3⟩ true) (.region 7 ⟨o2⟩ false))))))))))
theorem body : Try.f209.body = some code := by kernel_rfl
theorem main (P : PT) : ∀ env H, (En 82 k3 (B9 P)) env H → AW Try.prog T0 code env H (mkQ (ret P) (fun _ _ _ => False) (ret P)) :=
  (r_seq (rB T0_ok (q9 P)) (r_block (rL (l1 P) (fun N1 => (r_block (r_seq (rB T0_ok (q8 P N1)) (r_seq (r_seq (rB T0_ok (q7 P N1)) (r_cond rfl (r_exit (fun _ _ h => h)) r_skip)) (r_seq (r_seq (rD T0_ok mixed [(0, false), (1, false), (2, false), (3, false), (4, false), (5, false), (6, false), (7, false), (8, false), (9, false), (10, false), (11, false), (12, false), (13, false), (14, false), (15, false), (16, false), (17, false), (18, false), (19, false), (20, false), (21, false)] (by kernel_rfl) (q6 P N1)) (r_cond rfl (rB T0_ok (q5 P N1)) r_skip)) (r_seq (r_seq (rD T0_ok mixed [(0, false), (1, false), (2, false), (3, false), (4, false), (5, false), (6, false), (7, false), (8, false), (9, false), (10, false), (11, false), (12, false), (13, false), (14, false), (15, false)] (by kernel_rfl) (q4 P N1)) (r_cond rfl r_ret r_skip)) (r_seq (rD T0_ok mixed [(0, false), (1, false), (2, false), (3, false), (4, false), (5, false), (6, false), (7, false), (8, false), (9, false), (10, false), (11, false), (12, false), (13, false), (14, false), (15, false), (16, false), (17, false), (18, false), (19, false), (20, false), (21, false), (22, false), (23, false)] (by kernel_rfl) (q3 P N1)) (rB T0_ok (q2 P N1))))))))))))
theorem ac (P : PT) (x0 : Value) (x1 x2 x3 : Int) (x4 : Value) (H : AHeap) (h : B9 P x0 x1 x2 x3 x4 H) : AC Try.prog T0 209 [x0, (Value.int .i64 x1), (Value.int .i64 x2), (Value.int .i64 x3), x4] H P :=
  r_fn T0_ok (c := code) (n := 82) Try.func209 body (by kernel_rfl) (main P) (En_mk (x0, x1, x2, x3, x4, ()) (by kernel_rfl) ⟨by kernel_rfl, by kernel_rfl, by kernel_rfl, by kernel_rfl, by kernel_rfl, trivial⟩ h)

end F209
-- slices.medianAdjacentCmpFunc[loop.example/g01329/impl.set]
namespace F210
noncomputable def ret (P : PT) : EP := retE T0 18 Try.f210 P
abbrev k0 : Sk := [(0,.v),(1,.i .i64),(2,.v),(3,.v)]
noncomputable def o1 := ob Try.f210 [.r,.l]
def B1 (P : PT) (x0 : Value) (x1 : Int) (x2 x3 : Value) (H : AHeap) : Prop :=
  AC Try.prog T0 211 [x0, (Value.int .i64 (IntKind.i64.wrap (x1 - 1))), (Value.int .i64 x1), (Value.int .i64 (IntKind.i64.wrap (x1 + 1))), x2, x3] H (fun v1 H2 => asI .i64 v1 (fun v3 => P (Value.int .i64 v3) H2))
theorem q1 (P : PT) : QB Try.prog T0 18 o1 (ret P) k0 (B1 P) := fun _ _ _ _ _ _  => by kernel_rfl
noncomputable def o2 := ob Try.f210 [.l]
def B2 (P : PT) (x0 : Value) (x1 : Int) (x2 x3 : Value) (H : AHeap) : Prop :=
  B1 P x0 x1 x2 x3 H
theorem q2 (P : PT) : QB Try.prog T0 18 o2 (En 18 k0 (B1 P)) k0 (B2 P) := fun _ _ _ _ _ _  => by kernel_rfl
noncomputable def code : Code := (.seq (.region 0 ⟨o2⟩ false) (.seq (.region 1 ⟨o1⟩ false) .ret))
theorem body : Try.f210.body = some code := by kernel_rfl
theorem main (P : PT) : ∀ env H, (En 18 k0 (B2 P)) env H → AW Try.prog T0 code env H (mkQ (ret P) (fun _ _ _ => False) (ret P)) :=
  (r_seq (rB T0_ok (q2 P)) (r_seq (rB T0_ok (q1 P)) r_ret))
theorem ac (P : PT) (x0 : Value) (x1 : Int) (x2 x3 : Value) (H : AHeap) (h : B2 P x0 x1 x2 x3 H) : AC Try.prog T0 210 [x0, (Value.int .i64 x1), x2, x3] H P :=
  r_fn T0_ok (c := code) (n := 18) Try.func210 body (by kernel_rfl) (main P) (En_mk (x0, x1, x2, x3, ()) (by kernel_rfl) ⟨by kernel_rfl, by kernel_rfl, by kernel_rfl, by kernel_rfl, trivial⟩ h)

end F210
-- slices.medianCmpFunc[loop.example/g01329/impl.set]
namespace F211
noncomputable def ret (P : PT) : EP := retE T0 41 Try.f211 P
abbrev k0 : Sk := [(2,.i .i64)]
noncomputable def o1 := ob Try.f211 [.r,.r,.r,.r,.l]
def B1 (P : PT) (x2 : Int) (H : AHeap) : Prop :=
  P (Value.int .i64 x2) H
theorem q1 (P : PT) : QB Try.prog T0 41 o1 (ret P) k0 (B1 P) := fun _ _ _  => by kernel_rfl
abbrev k1 : Sk := [(0,.v),(1,.i .i64),(2,.i .i64),(4,.v),(5,.v)]
noncomputable def o2 := ob Try.f211 [.r,.r,.r,.l]
def B2 (P : PT) (x0 : Value) (x1 x2 : Int) (x4 x5 : Value) (H : AHeap) : Prop :=
  AC Try.prog T0 217 [x0, (Value.int .i64 x1), (Value.int .i64 x2), x4, x5] H (fun v1 H2 => tup2 v1 (fun v3 v4 => asI .i64 v3 (fun v5 => asI .i64 v4 (fun v6 => B1 P v6 H2))))
theorem q2 (P : PT) : QB Try.prog T0 41 o2 (En 41 k0 (B1 P)) k1 (B2 P) := fun _ _ _ _ _ _ _  => by kernel_rfl
abbrev k2 : Sk := [(0,.v),(1,.i .i64),(2,.i .i64),(3,.i .i64),(4,.v),(5,.v)]
noncomputable def o3 := ob Try.f211 [.r,.r,.l]
def B3 (P : PT) (x0 : Value) (x1 x2 x3 : Int) (x4 x5 : Value) (H : AHeap) : Prop :=
  AC Try.prog T0 217 [x0, (Value.int .i64 x2), (Value.int .i64 x3), x4, x5] H (fun v1 H2 => tup2 v1 (fun v3 v4 => asI .i64 v3 (fun v5 => asI .i64 v4 (fun v6 => B2 P x0 x1 v5 x4 x5 H2))))
theorem q3 (P : PT) : QB Try.prog T0 41 o3 (En 41 k1 (B2 P)) k2 (B3 P) := fun _ _ _ _ _ _ _ _  => by kernel_rfl
noncomputable def o4 := ob Try.f211 [.r,.l]
def B4 (P : PT) (x0 : Value) (x1 x2 x3 : Int) (x4 x5 : Value) (H : AHeap) : Prop :=
  AC Try.prog T0 217 [x0, (Value.int .i64 x1), (Value.int .i64 x2), x4, x5] H (fun v1 H2 => tup2 v1 (fun v3 v4 => asI .i64 v3 (fun v5 => asI .i64 v4 (fun v6 => B3 P x0 v5 v6 x3 x4 x5 H2))))
theorem q4 (P : PT) : QB Try.prog T0 41 o4 (En 41 k2 (B3 P)) k2 (B4 P) := fun _ _ _ _ _ _ _ _  => by kernel_rfl
noncomputable def o5 := ob Try.f211 [.l]
def B5 (P : PT) (x0 : Value) (x1 x2 x3 : Int) (x4 x5 : Value) (H : AHeap) : Prop :=
  B4 P x0 x1 x2 x3 x4 x5 H
theorem q5 (P : PT) : QB Try.prog T0 41 o5 (En 41 k2 (B4 P)) k2 (B5 P) := fun _ _ _ _ _ _ _ _  => by kernel_rfl
noncomputable def code : Code := (.seq (.region 0 ⟨o5⟩ false) (.seq (.region 1 ⟨o4⟩ false) (.seq (.region 2 ⟨o3⟩ false) (.seq (.region 3 ⟨o2⟩ false) (.seq (.region 4 ⟨o1⟩ false) .ret)))))
theorem body : Try.f211.body = some code := by kernel_rfl
theorem main (P : PT) : ∀ env H, (En 41 k2 (B5 P)) env H → AW Try.prog T0 code env H (mkQ (ret P) (fun _ _ _ => False) (ret P)) :=
  (r_seq (rB T0_ok (q5 P)) (r_seq (rB T0_ok (q4 P)) (r_seq (rB T0_ok (q3 P)) (r_seq (rB T0_ok (q2 P)) (r_seq (rB T0_ok (q1 P)) r_ret)))))
theorem ac (P : PT) (x0 : Value) (x1 x2 x3 : Int) (x4 x5 : Value) (H : AHeap) (h : B5 P x0 x1 x2 x3 x4 x5 H) : AC Try.prog T0 211 [x0, (Value.int .i64 x1), (Value.int .i64 x2), (Value.int .i64 x3), x4, x5] H P :=
  r_fn T0_ok (c := code) (n := 41) Try.func211 body (by kernel_rfl) (main P) (En_mk (x0, x1, x2, x3, x4, x5, ()) (by kernel_rfl) ⟨by kernel_rfl, by kernel_rfl, by kernel_rfl, by kernel_rfl, by kernel_rfl, by kernel_rfl, trivial⟩ h)

end F211
-- math/bits.Mul64
namespace F216
noncomputable def ret (P : PT) : EP := retE T0 51 Try.f216 P
abbrev k0 : Sk := [(0,.i .u64),(1,.i .u64),(4,.i .u64)]
noncomputable def o1 := ob Try.f216 [.r,.r,.r,.r,.r,.r,.r,.r,.r,.r,.r,.l]
def B1 (P : PT) (x0 x1 x4 : Int) (H : AHeap) : Prop :=
  P (Value.tuple ⟨[(Value.int .u64 x4), (Value.int .u64 (IntKind.u64.wrap (x0 * x1)))]⟩) H
theorem q1 (P : PT) : QB Try.prog T0 51 o1 (ret P) k0 (B1 P) := fun _ _ _ _ _  => by kernel_rfl
abbrev k1 : Sk := [(0,.i .u64),(1,.i .u64),(7,.i .u64),(9,.i .u64),(12,.i .u64),(13,.i .u64)]
noncomputable def o2 := ob Try.f216 [.r,.r,.r,.r,.r,.r,.r,.r,.r,.r,.l]
def B2 (P : PT) (x0 x1 x7 x9 x12 x13 : Int) (H : AHeap) : Prop :=
  ((0 : Int) ≤ 32) ∧ (B1 P x0 x1 (IntKind.u64.wrap ((IntKind.u64.wrap ((IntKind.u64.wrap (x7 * x9)) + x13)) + (Int.fdiv x12 (2 ^ (min (Int.toNat 32) 64))))) H)
theorem q2 (P : PT) : QB Try.prog T0 51 o2 (En 51 k0 (B1 P)) k1 (B2 P) := fun _ _ _ _ _ _ _ _  => by kernel_rfl
abbrev k2 : Sk := [(0,.i .u64),(1,.i .u64),(6,.i .u64),(7,.i .u64),(9,.i .u64),(12,.i .u64),(13,.i .u64)]
noncomputable def o3 := ob Try.f216 [.r,.r,.r,.r,.r,.r,.r,.r,.r,.l]
def B3 (P : PT) (x0 x1 x6 x7 x9 x12 x13 : Int) (H : AHeap) : Prop :=
  B2 P x0 x1 x7 x9 (IntKind.u64.wrap (x12 + (IntKind.u64.wrap (x6 * x9)))) x13 H
theorem q3 (P : PT) : QB Try.prog T0 51 o3 (En 51 k1 (B2 P)) k2 (B3 P) := fun _ _ _ _ _ _ _ _ _  => by kernel_rfl
abbrev k3 : Sk := [(0,.i .u64),(1,.i .u64),(6,.i .u64),(7,.i .u64),(9,.i .u64),(11,.i .u64),(12,.i .u64)]
noncomputable def o4 := ob Try.f216 [.r,.r,.r,.r,.r,.r,.r,.r,.l]
def B4 (P : PT) (x0 x1 x6 x7 x9 x11 x12 : Int) (H : AHeap) : Prop :=
  ((0 : Int) ≤ 32) ∧ (B3 P x0 x1 x6 x7 x9 x12 (Int.fdiv x11 (2 ^ (min (Int.toNat 32) 64))) H)
theorem q4 (P : PT) : QB Try.prog T0 51 o4 (En 51 k2 (B3 P)) k3 (B4 P) := fun _ _ _ _ _ _ _ _ _  => by kernel_rfl
abbrev k4 : Sk := [(0,.i .u64),(1,.i .u64),(6,.i .u64),(7,.i .u64),(9,.i .u64),(11,.i .u64)]
noncomputable def o5 := ob Try.f216 [.r,.r,.r,.r,.r,.r,.r,.l]
def B5 (P : PT) (x0 x1 x6 x7 x9 x11 : Int) (H : AHeap) : Prop :=
  B4 P x0 x1 x6 x7 x9 x11 (IntKind.u64.wrap (BitVec.ofInt 64 x11 &&& BitVec.ofInt 64 4294967295).toNat) H
theorem q5 (P : PT) : QB Try.prog T0 51 o5 (En 51 k3 (B4 P)) k4 (B5 P) := fun _ _ _ _ _ _ _ _  => by kernel_rfl
abbrev k5 : Sk := [(0,.i .u64),(1,.i .u64),(6,.i .u64),(7,.i .u64),(8,.i .u64),(9,.i .u64),(10,.i .u64)]
noncomputable def o6 := ob Try.f216 [.r,.r,.r,.r,.r,.r,.l]
def B6 (P : PT) (x0 x1 x6 x7 x8 x9 x10 : Int) (H : AHeap) : Prop :=
  ((0 : Int) ≤ 32) ∧ (B5 P x0 x1 x6 x7 x9 (IntKind.u64.wrap ((IntKind.u64.wrap (x7 * x8)) + (Int.fdiv x10 (2 ^ (min (Int.toNat 32) 64))))) H)
theorem q6 (P : PT) : QB Try.prog T0 51 o6 (En 51 k4 (B5 P)) k5 (B6 P) := fun _ _ _ _ _ _ _ _ _  => by kernel_rfl
abbrev k6 : Sk := [(0,.i .u64),(1,.i .u64),(6,.i .u64),(7,.i .u64),(8,.i .u64),(9,.i .u64)]
noncomputable def o7 := ob Try.f216 [.r,.r,.r,.r,.r,.l]
def B7 (P : PT) (x0 x1 x6 x7 x8 x9 : Int) (H : AHeap) : Prop :=
  B6 P x0 x1 x6 x7 x8 x9 (IntKind.u64.wrap (x6 * x8)) H
theorem q7 (P : PT) : QB Try.prog T0 51 o7 (En 51 k5 (B6 P)) k6 (B7 P) := fun _ _ _ _ _ _ _ _  => by kernel_rfl
abbrev k7 : Sk := [(0,.i .u64),(1,.i .u64),(6,.i .u64),(7,.i .u64),(8,.i .u64)]
noncomputable def o8 := ob Try.f216 [.r,.r,.r,.r,.l]
def B8 (P : PT) (x0 x1 x6 x7 x8 : Int) (H : AHeap) : Prop :=
  ((0 : Int) ≤ 32) ∧ (B7 P x0 x1 x6 x7 x8 (Int.fdiv x1 (2 ^ (min (Int.toNat 32) 64))) H)
theorem q8 (P : PT) : QB Try.prog T0 51 o8 (En 51 k6 (B7 P)) k7 (B8 P) := fun _ _ _ _ _ _ _  => by kernel_rfl
abbrev k8 : Sk := [(0,.i .u64),(1,.i .u64),(6,.i .u64),(7,.i .u64)]
noncomputable def o9 := ob Try.f216 [.r,.r,.r,.l]
def B9 (P : PT) (x0 x1 x6 x7 : Int) (H : AHeap) : Prop :=
  B8 P x0 x1 x6 x7 (IntKind.u64.wrap (BitVec.ofInt 64 x1 &&& BitVec.ofInt 64 4294967295).toNat) H
theorem q9 (P : PT) : QB Try.prog T0 51 o9 (En 51 k7 (B8 P)) k8 (B9 P) := fun _ _ _ _ _ _  => by kernel_rfl
abbrev k9 : Sk := [(0,.i .u64),(1,.i .u64),(6,.i .u64)]
noncomputable def o10 := ob Try.f216 [.r,.r,.l]
def B10 (P : PT) (x0 x1 x6 : Int) (H : AHeap) : Prop :=
  ((0 : Int) ≤ 32) ∧ (B9 P x0 x1 x6 (Int.fdiv x0 (2 ^ (min (Int.toNat 32) 64))) H)
theorem q10 (P : PT) : QB Try.prog T0 51 o10 (En 51 k8 (B9 P)) k9 (B10 P) := fun _ _ _ _ _  => by kernel_rfl
abbrev k10 : Sk := [(0,.i .u64),(1,.i .u64)]
noncomputable def o11 := ob Try.f216 [.r,.l]
def B11 (P : PT) (x0 x1 : Int) (H : AHeap) : Prop :=
  B10 P x0 x1 (IntKind.u64.wrap (BitVec.ofInt 64 x0 &&& BitVec.ofInt 64 4294967295).toNat) H
theorem q11 (P : PT) : QB Try.prog T0 51 o11 (En 51 k9 (B10 P)) k10 (B11 P) := fun _ _ _ _  => by kernel_rfl
noncomputable def o12 := ob Try.f216 [.l]
def B12 (P : PT) (x0 x1 : Int) (H : AHeap) : Prop :=
  B11 P x0 x1 H
theorem q12 (P : PT) : QB Try.prog T0 51 o12 (En 51 k10 (B11 P)) k10 (B12 P) := fun _ _ _ _  => by kernel_rfl
noncomputable def code : Code := (.seq (.region 0 ⟨o12⟩ false) (.seq (.region 1 ⟨o11⟩ false) (.seq (.region 2 ⟨o10⟩ false) (.seq (.region 3 ⟨o9⟩ false) (.seq (.region 4 ⟨o8⟩ false) (.seq (.region 5 ⟨o7⟩ false) (.seq (.region 6 ⟨o6⟩ false) (.seq (.region 7 ⟨o5⟩ false) (.seq (.region 8 ⟨o4⟩ false) (.seq (.region 9 ⟨o3⟩ false) (.seq (.region 10 ⟨o2⟩ false) (.seq (.region 11 ⟨o1⟩ false) .ret))))))))))))
theorem body : Try.f216.body = some code := by kernel_rfl
theorem main (P : PT) : ∀ env H, (En 51 k10 (B12 P)) env H → AW Try.prog T0 code env H (mkQ (ret P) (fun _ _ _ => False) (ret P)) :=
  (r_seq (rB T0_ok (q12 P)) (r_seq (rB T0_ok (q11 P)) (r_seq (rB T0_ok (q10 P)) (r_seq (rB T0_ok (q9 P)) (r_seq (rB T0_ok (q8 P)) (r_seq (rB T0_ok (q7 P)) (r_seq (rB T0_ok (q6 P)) (r_seq (rB T0_ok (q5 P)) (r_seq (rB T0_ok (q4 P)) (r_seq (rB T0_ok (q3 P)) (r_seq (rB T0_ok (q2 P)) (r_seq (rB T0_ok (q1 P)) r_ret))))))))))))
theorem ac (P : PT) (x0 x1 : Int) (H : AHeap) (h : B12 P x0 x1 H) : AC Try.prog T0 216 [(Value.int .u64 x0), (Value.int .u64 x1)] H P :=
  r_fn T0_ok (c := code) (n := 51) Try.func216 body (by kernel_rfl) (main P) (En_mk (x0, x1, ()) (by kernel_rfl) ⟨by kernel_rfl, by kernel_rfl, trivial⟩ h)

end F216
-- slices.order2CmpFunc[loop.example/g01329/impl.set]
namespace F217
noncomputable def ret (P : PT) : EP := retE T0 32 Try.f217 P
abbrev k0 : Sk := [(1,.i .i64),(2,.i .i64)]
noncomputable def o1 := ob Try.f217 [.r,.r,.l]
def B1 (P : PT) (x1 x2 : Int) (H : AHeap) : Prop :=
  P (Value.tuple ⟨[(Value.int .i64 x1), (Value.int .i64 x2)]⟩) H
theorem q1 (P : PT) : QB Try.prog T0 32 o1 (ret P) k0 (B1 P) := fun _ _ _ _  => by kernel_rfl
noncomputable def o2 := ob Try.f217 [.r,.l,.r,.l,.r,.l]
def B2 (P : PT) (x1 x2 : Int) (H : AHeap) : Prop :=
  P (Value.tuple ⟨[(Value.int .i64 x2), (Value.int .i64 x1)]⟩) H
theorem q2 (P : PT) : QB Try.prog T0 32 o2 (ret P) k0 (B2 P) := fun _ _ _ _  => by kernel_rfl
abbrev k1 : Sk := [(1,.i .i64),(2,.i .i64),(3,.v)]
noncomputable def o3 := ob Try.f217 [.r,.l,.r,.l,.l]
def B3 (P : PT) (x1 x2 : Int) (x3 : Value) (H : AHeap) : Prop :=
  nilK x3 (fun v1 => asP v1 (fun b2 o3 => ldI .i64 H b2 o3 (fun v4 => nilK x3 (fun v5 => asP v5 (fun b6 o7 => stK H b6 o7 [(Value.int .i64 (IntKind.i64.wrap (v4 + 1)))] (fun H8 => B2 P x1 x2 H8))))))
theorem q3 (P : PT) : QB Try.prog T0 32 o3 (En 32 k0 (B2 P)) k1 (B3 P) := fun _ _ _ _ _  => by kernel_rfl
abbrev k2 : Sk := [(0,.v),(1,.i .i64),(2,.i .i64),(3,.v),(4,.v)]
noncomputable def o4 := ob Try.f217 [.r,.l,.l]
def B4 (P : PT) (x0 : Value) (x1 x2 : Int) (x3 x4 : Value) (H : AHeap) : Prop :=
  idxK x0 x2 1 (fun b1 o2 => ldI .u64 H b1 o2 (fun v3 => idxK x0 x1 1 (fun b4 o5 => ldI .u64 H b4 o5 (fun v6 => callV Try.prog T0 x4 [(Value.int .u64 v3), (Value.int .u64 v6)] H (fun v7 H8 => asI .i64 v7 (fun v9 => pif (decide ((v9 : Int) < 0)) (B3 P x1 x2 x3 H8) (B1 P x1 x2 H8)))))))
theorem q4 (P : PT) : QD Try.prog T0 32 o4 [(0, false), (1, false), (2, false), (3, false), (4, false), (5, false), (6, false), (7, false), (8, false), (9, false), (10, false)] (cnd 22 (En 32 k1 (B3 P)) (En 32 k0 (B1 P))) k2 (B4 P) := fun _ _ _ _ _ _ _  => by kernel_rfl
noncomputable def o5 := ob Try.f217 [.l]
def B5 (P : PT) (x0 : Value) (x1 x2 : Int) (x3 x4 : Value) (H : AHeap) : Prop :=
  B4 P x0 x1 x2 x3 x4 H
theorem q5 (P : PT) : QB Try.prog T0 32 o5 (En 32 k2 (B4 P)) k2 (B5 P) := fun _ _ _ _ _ _ _  => by kernel_rfl
noncomputable def code : Code := (.seq (.region 0 ⟨o5⟩ false) (.seq (.seq (.region 1 ⟨o4⟩ true) (.cond (.tmp 22) (.seq (.region 2 ⟨o3⟩ false) (.seq (.region 3 ⟨o2⟩ false) .ret)) .skip)) (.seq (.region 4 ⟨o1⟩ false) .ret)))
theorem body : Try.f217.body = some code := by kernel_rfl
theorem main (P : PT) : ∀ env H, (En 32 k2 (B5 P)) env H → AW Try.prog T0 code env H (mkQ (ret P) (fun _ _ _ => False) (ret P)) :=
  (r_seq (rB T0_ok (q5 P)) (r_seq (r_seq (rD T0_ok mixed [(0, false), (1, false), (2, false), (3, false), (4, false), (5, false), (6, false), (7, false), (8, false), (9, false), (10, false)] (by kernel_rfl) (q4 P)) (r_cond rfl (r_seq (rB T0_ok (q3 P)) (r_seq (rB T0_ok (q2 P)) r_ret)) r_skip)) (r_seq (rB T0_ok (q1 P)) r_ret)))
theorem ac (P : PT) (x0 : Value) (x1 x2 : Int) (x3 x4 : Value) (H : AHeap) (h : B5 P x0 x1 x2 x3 x4 H) : AC Try.prog T0 217 [x0, (Value.int .i64 x1), (Value.int .i64 x2), x3, x4] H P :=
  r_fn T0_ok (c := code) (n := 32) Try.func217 body (by kernel_rfl) (main P) (En_mk (x0, x1, x2, x3, x4, ()) (by kernel_rfl) ⟨by kernel_rfl, by kernel_rfl, by kernel_rfl, by kernel_rfl, by kernel_rfl, trivial⟩ h)

end F217
end Go.Proofs
