import Derived.Test.YtkmjiikgkhhciaaT
set_option linter.unusedVariables false
set_option maxRecDepth 100000
namespace Go.Proofs
open Go.Abs
-- loop.example/g01329/laws.FnExactNewDesk
namespace F5
noncomputable def ret (P : PT) : EP := retE T0 36 Try.f5 P
abbrev k0 : Sk := []
noncomputable def o1 := ob Try.f5 [.r,.r,.r,.r,.r,.r,.r,.r,.r,.r,.r,.r,.r,.r,.r,.r,.l]
def B1 (P : PT) (H : AHeap) : Prop :=
  P (Value.bool true) H
theorem q1 (P : PT) : QB Try.prog T0 36 o1 (ret P) k0 (B1 P) := fun _ _  => by kernel_rfl
noncomputable def o2 := ob Try.f5 [.r,.r,.r,.r,.r,.r,.r,.r,.r,.r,.r,.r,.r,.r,.r,.l,.r,.l,.l]
def B2 (P : PT) (H : AHeap) : Prop :=
  P (Value.bool false) H
theorem q2 (P : PT) : QB Try.prog T0 36 o2 (ret P) k0 (B2 P) := fun _ _  => by kernel_rfl
abbrev k1 : Sk := [(3,.i .i64),(4,.i .i64)]
noncomputable def o3 := ob Try.f5 [.r,.r,.r,.r,.r,.r,.r,.r,.r,.r,.r,.r,.r,.r,.r,.l,.l]
def B3 (P : PT) (x3 x4 : Int) (H : AHeap) : Prop :=
  pif ((x4 : Int) != x3) (B2 P H) (B1 P H)
theorem q3 (P : PT) : QB Try.prog T0 36 o3 (cnd 35 (En 36 k0 (B2 P)) (En 36 k0 (B1 P))) k1 (B3 P) := fun _ _ _ _  => by kernel_rfl
noncomputable def o4 := ob Try.f5 [.r,.r,.r,.r,.r,.r,.r,.r,.r,.r,.r,.r,.r,.r,.l,.r,.l,.l]
def B4 (P : PT) (H : AHeap) : Prop :=
  P (Value.bool false) H
theorem q4 (P : PT) : QB Try.prog T0 36 o4 (ret P) k0 (B4 P) := fun _ _  => by kernel_rfl
noncomputable def o5 := ob Try.f5 [.r,.r,.r,.r,.r,.r,.r,.r,.r,.r,.r,.r,.r,.r,.l,.l]
def B5 (P : PT) (x3 x4 : Int) (H : AHeap) : Prop :=
  pif (decide ((x4 : Int) < 0)) (B4 P H) (B3 P x3 x4 H)
theorem q5 (P : PT) : QB Try.prog T0 36 o5 (cnd 32 (En 36 k0 (B4 P)) (En 36 k1 (B3 P))) k1 (B5 P) := fun _ _ _ _  => by kernel_rfl
abbrev k2 : Sk := [(2,.x),(3,.i .i64),(4,.i .i64)]
noncomputable def o6 := ob Try.f5 [.r,.r,.r,.r,.r,.r,.r,.r,.r,.r,.r,.r,.r,.l]
def B6 (P : PT) (x2 : Nat) (x3 x4 : Int) (H : AHeap) : Prop :=
  ldI .i64 H x2 0 (fun v1 => ld1 H x2 1 (fun v2 => ld1 H x2 2 (fun v3 => ld1 H x2 3 (fun v4 => AC Try.prog T0 25 [(Value.agg ⟨[(Value.int .i64 v1), v2, v3, v4]⟩), (Value.int .i64 x4)] H (fun v5 H6 => asI .i64 v5 (fun v7 => B5 P x3 v7 H6))))))
theorem q6 (P : PT) : QB Try.prog T0 36 o6 (En 36 k1 (B5 P)) k2 (B6 P) := fun _ _ _ _ _  => by kernel_rfl
abbrev k3 : Sk := [(2,.x),(3,.i .i64)]
noncomputable def o7 := ob Try.f5 [.r,.r,.r,.r,.r,.r,.r,.r,.r,.r,.r,.r,.l]
def B7 (P : PT) (x2 : Nat) (x3 : Int) (H : AHeap) : Prop :=
  B6 P x2 x3 1 H
theorem q7 (P : PT) : QB Try.prog T0 36 o7 (En 36 k2 (B6 P)) k3 (B7 P) := fun _ _ _ _  => by kernel_rfl
noncomputable def o8 := ob Try.f5 [.r,.r,.r,.r,.r,.r,.r,.r,.r,.r,.r,.l,.r,.l,.l]
def B8 (P : PT) (H : AHeap) : Prop :=
  P (Value.bool false) H
theorem q8 (P : PT) : QB Try.prog T0 36 o8 (ret P) k0 (B8 P) := fun _ _  => by kernel_rfl
abbrev k4 : Sk := [(1,.x),(2,.x),(3,.i .i64),(5,.x)]
noncomputable def o9 := ob Try.f5 [.r,.r,.r,.r,.r,.r,.r,.r,.r,.r,.r,.l,.l]
def B9 (P : PT) (x1 x2 : Nat) (x3 : Int) (x5 : Nat) (H : AHeap) : Prop :=
  ldI .i64 H x5 0 (fun v1 => ld1 H x5 1 (fun v2 => ld1 H x5 2 (fun v3 => ld1 H x5 3 (fun v4 => ldI .i64 H x1 0 (fun v5 => ld1 H x1 1 (fun v6 => ld1 H x1 2 (fun v7 => ld1 H x1 3 (fun v8 => AC Try.prog T0 23 [(Value.agg ⟨[(Value.int .i64 v1), v2, v3, v4]⟩), (Value.agg ⟨[(Value.int .i64 v5), v6, v7, v8]⟩)] H (fun v9 H10 => asB v9 (fun v11 => pif (!v11) (B8 P H10) (B7 P x2 x3 H10)))))))))))
theorem q9 (P : PT) : QB Try.prog T0 36 o9 (cnd 27 (En 36 k0 (B8 P)) (En 36 k3 (B7 P))) k4 (B9 P) := fun _ _ _ _ _ _  => by kernel_rfl
abbrev k5 : Sk := [(1,.x),(2,.x),(3,.i .i64)]
noncomputable def o10 := ob Try.f5 [.r,.r,.r,.r,.r,.r,.r,.r,.r,.r,.l]
def B10 (P : PT) (x1 x2 : Nat) (x3 : Int) (H : AHeap) : Prop :=
  AC Try.prog T0 22 [] H (fun v1 H2 => agg4 v1 (fun v3 v4 v5 v6 => asI .i64 v3 (fun v7 => newK H2 [(Value.int .i64 0), (Value.slice none 0 0), (Value.slice none 0 0), (Value.slice none 0 0)] 45 (fun b11 H12 => stK H12 b11 0 [(Value.int .i64 v7), v4, v5, v6] (fun H13 => B9 P x1 x2 x3 b11 H13)))))
theorem q10 (P : PT) : QB Try.prog T0 36 o10 (En 36 k4 (B9 P)) k5 (B10 P) := fun _ _ _ _ _  => by kernel_rfl
noncomputable def o11 := ob Try.f5 [.r,.r,.r,.r,.r,.r,.r,.r,.r,.l,.r,.l,.l]
def B11 (P : PT) (H : AHeap) : Prop :=
  P (Value.bool false) H
theorem q11 (P : PT) : QB Try.prog T0 36 o11 (ret P) k0 (B11 P) := fun _ _  => by kernel_rfl
abbrev k6 : Sk := [(1,.x),(2,.x),(3,.i .i64),(4,.i .i64)]
noncomputable def o12 := ob Try.f5 [.r,.r,.r,.r,.r,.r,.r,.r,.r,.l,.l]
def B12 (P : PT) (x1 x2 : Nat) (x3 x4 : Int) (H : AHeap) : Prop :=
  pif ((x4 : Int) != x3) (B11 P H) (B10 P x1 x2 x3 H)
theorem q12 (P : PT) : QB Try.prog T0 36 o12 (cnd 22 (En 36 k0 (B11 P)) (En 36 k5 (B10 P))) k6 (B12 P) := fun _ _ _ _ _ _  => by kernel_rfl
noncomputable def o13 := ob Try.f5 [.r,.r,.r,.r,.r,.r,.r,.r,.l,.r,.l,.l]
def B13 (P : PT) (H : AHeap) : Prop :=
  P (Value.bool false) H
theorem q13 (P : PT) : QB Try.prog T0 36 o13 (ret P) k0 (B13 P) := fun _ _  => by kernel_rfl
noncomputable def o14 := ob Try.f5 [.r,.r,.r,.r,.r,.r,.r,.r,.l,.l]
def B14 (P : PT) (x1 x2 : Nat) (x3 x4 : Int) (H : AHeap) : Prop :=
  pif (decide ((x4 : Int) < 0)) (B13 P H) (B12 P x1 x2 x3 x4 H)
theorem q14 (P : PT) : QB Try.prog T0 36 o14 (cnd 19 (En 36 k0 (B13 P)) (En 36 k6 (B12 P))) k6 (B14 P) := fun _ _ _ _ _ _  => by kernel_rfl
noncomputable def o15 := ob Try.f5 [.r,.r,.r,.r,.r,.r,.r,.l]
def B15 (P : PT) (x1 x2 : Nat) (x3 x4 : Int) (H : AHeap) : Prop :=
  ldI .i64 H x2 0 (fun v1 => ld1 H x2 1 (fun v2 => ld1 H x2 2 (fun v3 => ld1 H x2 3 (fun v4 => AC Try.prog T0 25 [(Value.agg ⟨[(Value.int .i64 v1), v2, v3, v4]⟩), (Value.int .i64 x4)] H (fun v5 H6 => asI .i64 v5 (fun v7 => B14 P x1 x2 x3 v7 H6))))))
theorem q15 (P : PT) : QB Try.prog T0 36 o15 (En 36 k6 (B14 P)) k6 (B15 P) := fun _ _ _ _ _ _  => by kernel_rfl
noncomputable def o16 := ob Try.f5 [.r,.r,.r,.r,.r,.r,.l]
def B16 (P : PT) (x1 x2 : Nat) (x3 : Int) (H : AHeap) : Prop :=
  B15 P x1 x2 x3 1 H
theorem q16 (P : PT) : QB Try.prog T0 36 o16 (En 36 k6 (B15 P)) k5 (B16 P) := fun _ _ _ _ _  => by kernel_rfl
noncomputable def o17 := ob Try.f5 [.r,.r,.r,.r,.r,.l]
def B17 (P : PT) (x1 x2 : Nat) (x3 : Int) (H : AHeap) : Prop :=
  ldI .i64 H x2 0 (fun v1 => ld1 H x2 1 (fun v2 => ld1 H x2 2 (fun v3 => ld1 H x2 3 (fun v4 => AC Try.prog T0 24 [(Value.agg ⟨[(Value.int .i64 v1), v2, v3, v4]⟩), (Value.int .i64 x3)] H (fun v5 H6 => asI .i64 v5 (fun v7 => B16 P x1 x2 v7 H6))))))
theorem q17 (P : PT) : QB Try.prog T0 36 o17 (En 36 k5 (B16 P)) k5 (B17 P) := fun _ _ _ _ _  => by kernel_rfl
abbrev k7 : Sk := [(1,.x),(2,.x)]
noncomputable def o18 := ob Try.f5 [.r,.r,.r,.r,.l]
def B18 (P : PT) (x1 x2 : Nat) (H : AHeap) : Prop :=
  B17 P x1 x2 1 H
theorem q18 (P : PT) : QB Try.prog T0 36 o18 (En 36 k5 (B17 P)) k7 (B18 P) := fun _ _ _ _  => by kernel_rfl
noncomputable def o19 := ob Try.f5 [.r,.r,.r,.l,.r,.l,.l]
def B19 (P : PT) (H : AHeap) : Prop :=
  P (Value.bool false) H
theorem q19 (P : PT) : QB Try.prog T0 36 o19 (ret P) k0 (B19 P) := fun _ _  => by kernel_rfl
noncomputable def o20 := ob Try.f5 [.r,.r,.r,.l,.l]
def B20 (P : PT) (x1 x2 : Nat) (H : AHeap) : Prop :=
  ldI .i64 H x2 0 (fun v1 => ld1 H x2 1 (fun v2 => ld1 H x2 2 (fun v3 => ld1 H x2 3 (fun v4 => ldI .i64 H x1 0 (fun v5 => ld1 H x1 1 (fun v6 => ld1 H x1 2 (fun v7 => ld1 H x1 3 (fun v8 => AC Try.prog T0 23 [(Value.agg ⟨[(Value.int .i64 v1), v2, v3, v4]⟩), (Value.agg ⟨[(Value.int .i64 v5), v6, v7, v8]⟩)] H (fun v9 H10 => asB v9 (fun v11 => pif (!v11) (B19 P H10) (B18 P x1 x2 H10)))))))))))
theorem q20 (P : PT) : QB Try.prog T0 36 o20 (cnd 11 (En 36 k0 (B19 P)) (En 36 k7 (B18 P))) k7 (B20 P) := fun _ _ _ _  => by kernel_rfl
abbrev k8 : Sk := [(1,.x)]
noncomputable def o21 := ob Try.f5 [.r,.r,.l]
def B21 (P : PT) (x1 : Nat) (H : AHeap) : Prop :=
  AC Try.prog T0 22 [] H (fun v1 H2 => agg4 v1 (fun v3 v4 v5 v6 => asI .i64 v3 (fun v7 => newK H2 [(Value.int .i64 0), (Value.slice none 0 0), (Value.slice none 0 0), (Value.slice none 0 0)] 45 (fun b11 H12 => stK H12 b11 0 [(Value.int .i64 v7), v4, v5, v6] (fun H13 => B20 P x1 b11 H13)))))
theorem q21 (P : PT) : QB Try.prog T0 36 o21 (En 36 k7 (B20 P)) k8 (B21 P) := fun _ _ _  => by kernel_rfl
noncomputable def o22 := ob Try.f5 [.r,.l]
def B22 (P : PT) (H : AHeap) : Prop :=
  AC Try.prog T0 21 [] H (fun v1 H2 => agg4 v1 (fun v3 v4 v5 v6 => asI .i64 v3 (fun v7 => newK H2 [(Value.int .i64 0), (Value.slice none 0 0), (Value.slice none 0 0), (Value.slice none 0 0)] 45 (fun b11 H12 => stK H12 b11 0 [(Value.int .i64 v7), v4, v5, v6] (fun H13 => B21 P b11 H13)))))
theorem q22 (P : PT) : QB Try.prog T0 36 o22 (En 36 k8 (B21 P)) k0 (B22 P) := fun _ _  => by kernel_rfl
noncomputable def o23 := ob Try.f5 [.l]
def B23 (P : PT) (H : AHeap) : Prop :=
  B22 P H
theorem q23 (P : PT) : QB Try.prog T0 36 o23 (En 36 k0 (B22 P)) k0 (B23 P) := fun _ _  => by kernel_rfl
noncomputable def code : Code := (.seq (.region 0 ⟨o23⟩ false) (.seq (.region 1 ⟨o22⟩ false) (.seq (.region 2 ⟨o21⟩ false) (.seq (.seq (.region 3 ⟨o20⟩ false) (.cond (.tmp 11) (.seq (.region 4 ⟨o19⟩ false) .ret) .skip)) (.seq (.region 5 ⟨o18⟩ false) (.seq (.region 6 ⟨o17⟩ false) (.seq (.region 7 ⟨o16⟩ false) (.seq (.region 8 ⟨o15⟩ false) (.seq (.seq (.region 9 ⟨o14⟩ false) (.cond (.tmp 19) (.seq (.region 10 ⟨o13⟩ false) .ret) .skip)) (.seq (.seq (.region 11 ⟨o12⟩ false) (.cond (.tmp 22) (.seq (.region 12 ⟨o11⟩ false) .ret) .skip)) (.seq (.region 13 ⟨o10⟩ false) (.seq (.seq (.region 14 ⟨o9⟩ false) (.cond (.tmp 27) (.seq (.region 15 ⟨o8⟩ false) .ret) .skip)) (.seq (.region 16 ⟨o7⟩ false) (.seq (.region 17 ⟨o6⟩ false) (.seq (.seq (.region 18 ⟨o5⟩ false) (.cond (.tmp 32) (.seq (.region 19 ⟨o4⟩ false) .ret) .skip)) (.seq (.seq (.region 20 ⟨o3⟩ false) (.cond (.tmp 35) (.seq (.region 21 ⟨o2⟩ false) .ret) .skip)) (.seq (.region 22 ⟨o1⟩ false) .ret)))))))))))))))))
theorem body : Try.f5.body = some code := by kernel_rfl
theorem main (P : PT) : ∀ env H, (En 36 k0 (B23 P)) env H → AW Try.prog T0 code env H (mkQ (ret P) (fun _ _ _ => False) (ret P)) :=
  (r_seq (rB T0_ok (q23 P)) (r_seq (rB T0_ok (q22 P)) (r_seq (rB T0_ok (q21 P)) (r_seq (r_seq (rB T0_ok (q20 P)) (r_cond rfl (r_seq (rB T0_ok (q19 P)) r_ret) r_skip)) (r_seq (rB T0_ok (q18 P)) (r_seq (rB T0_ok (q17 P)) (r_seq (rB T0_ok (q16 P)) (r_seq (rB T0_ok (q15 P)) (r_seq (r_seq (rB T0_ok (q14 P)) (r_cond rfl (r_seq (rB T0_ok (q13 P)) r_ret) r_skip)) (r_seq (r_seq (rB T0_ok (q12 P)) (r_cond rfl (r_seq (rB T0_ok (q11 P)) r_ret) r_skip)) (r_seq (rB T0_ok (q10 P)) (r_seq (r_seq (rB T0_ok (q9 P)) (r_cond rfl (r_seq (rB T0_ok (q8 P)) r_ret) r_skip)) (r_seq (rB T0_ok (q7 P)) (r_seq (rB T0_ok (q6 P)) (r_seq (r_seq (rB T0_ok (q5 P)) (r_cond rfl (r_seq (rB T0_ok (q4 P)) r_ret) r_skip)) (r_seq (r_seq (rB T0_ok (q3 P)) (r_cond rfl (r_seq (rB T0_ok (q2 P)) r_ret) r_skip)) (r_seq (rB T0_ok (q1 P)) r_ret)))))))))))))))))
theorem ac (P : PT) (H : AHeap) (h : B23 P H) : AC Try.prog T0 5 [] H P :=
  r_fn T0_ok (c := code) (n := 36) Try.func5 body (by kernel_rfl) (main P) (En_mk (()) (by kernel_rfl) trivial h)

end F5
-- loop.example/g01329/laws.eqGraph
namespace F14
noncomputable def ret (P : PT) : EP := retE T0 16 Try.f14 P
abbrev k0 : Sk := []
noncomputable def o1 := ob Try.f14 [.r,.r,.r,.l]
def B1 (P : PT) (H : AHeap) : Prop :=
  P (Value.bool true) H
theorem q1 (P : PT) : QB Try.prog T0 16 o1 (ret P) k0 (B1 P) := fun _ _  => by kernel_rfl
noncomputable def o2 := ob Try.f14 [.r,.r,.l,.r,.l,.l]
def B2 (P : PT) (H : AHeap) : Prop :=
  P (Value.bool false) H
theorem q2 (P : PT) : QB Try.prog T0 16 o2 (ret P) k0 (B2 P) := fun _ _  => by kernel_rfl
abbrev k1 : Sk := [(2,.x),(3,.x)]
noncomputable def o3 := ob Try.f14 [.r,.r,.l,.l]
def B3 (P : PT) (x2 x3 : Nat) (H : AHeap) : Prop :=
  ld1 H x2 1 (fun v1 => ld1 H x3 1 (fun v2 => AC Try.prog T0 46 [v1, v2] H (fun v3 H4 => asB v3 (fun v5 => pif (!v5) (B2 P H4) (B1 P H4)))))
theorem q3 (P : PT) : QB Try.prog T0 16 o3 (cnd 15 (En 16 k0 (B2 P)) (En 16 k0 (B1 P))) k1 (B3 P) := fun _ _ _ _  => by kernel_rfl
noncomputable def o4 := ob Try.f14 [.r,.l,.r,.l,.l]
def B4 (P : PT) (H : AHeap) : Prop :=
  P (Value.bool false) H
theorem q4 (P : PT) : QB Try.prog T0 16 o4 (ret P) k0 (B4 P) := fun _ _  => by kernel_rfl
noncomputable def o5 := ob Try.f14 [.r,.l,.l]
def B5 (P : PT) (x2 x3 : Nat) (H : AHeap) : Prop :=
  ldI .i64 H x2 0 (fun v1 => ldI .i64 H x3 0 (fun v2 => pif ((v1 : Int) != v2) (B4 P H) (B3 P x2 x3 H)))
theorem q5 (P : PT) : QB Try.prog T0 16 o5 (cnd 9 (En 16 k0 (B4 P)) (En 16 k1 (B3 P))) k1 (B5 P) := fun _ _ _ _  => by kernel_rfl
abbrev k2 : Sk := [(0,.g [.i,.v]),(1,.g [.i,.v])]
noncomputable def o6 := ob Try.f14 [.l]
def B6 (P : PT) (x0a : Int) (x0b : Value) (x1a : Int) (x1b : Value) (H : AHeap) : Prop :=
  newK H [(Value.int .i64 x0a), x0b] 31 (fun b1 H2 => newK H2 [(Value.int .i64 x1a), x1b] 31 (fun b3 H4 => B5 P b1 b3 H4))
theorem q6 (P : PT) : QB Try.prog T0 16 o6 (En 16 k1 (B5 P)) k2 (B6 P) := fun _ _ _ _ _ _  => by kernel_rfl
noncomputable def code : Code := (.seq (.region 0 ⟨o6⟩ false) (.seq (.seq (.region 1 ⟨o5⟩ false) (.cond (.tmp 9) (.seq (.region 2 ⟨o4⟩ false) .ret) .skip)) (.seq (.seq (.region 3 ⟨o3⟩ false) (.cond (.tmp 15) (.seq (.region 4 ⟨o2⟩ false) .ret) .skip)) (.seq (.region 5 ⟨o1⟩ false) .ret))))
theorem body : Try.f14.body = some code := by kernel_rfl
theorem main (P : PT) : ∀ env H, (En 16 k2 (B6 P)) env H → AW Try.prog T0 code env H (mkQ (ret P) (fun _ _ _ => False) (ret P)) :=
  (r_seq (rB T0_ok (q6 P)) (r_seq (r_seq (rB T0_ok (q5 P)) (r_cond rfl (r_seq (rB T0_ok (q4 P)) r_ret) r_skip)) (r_seq (r_seq (rB T0_ok (q3 P)) (r_cond rfl (r_seq (rB T0_ok (q2 P)) r_ret) r_skip)) (r_seq (rB T0_ok (q1 P)) r_ret))))
theorem ac (P : PT) (x0a : Int) (x0b : Value) (x1a : Int) (x1b : Value) (H : AHeap) (h : B6 P x0a x0b x1a x1b H) : AC Try.prog T0 14 [(Value.agg ⟨[(Value.int .i64 x0a), x0b]⟩), (Value.agg ⟨[(Value.int .i64 x1a), x1b]⟩)] H P :=
  r_fn T0_ok (c := code) (n := 16) Try.func14 body (by kernel_rfl) (main P) (En_mk (x0a, x0b, x1a, x1b, ()) (by kernel_rfl) ⟨by kernel_rfl, by kernel_rfl, trivial⟩ h)

end F14
-- loop.example/g01329/laws.eqInt64S
namespace F15
noncomputable def ret (P : PT) : EP := retE T0 26 Try.f15 P
abbrev k0 : Sk := []
noncomputable def o1 := ob Try.f15 [.r,.r,.r,.l]
def B1 (P : PT) (H : AHeap) : Prop :=
  P (Value.bool true) H
theorem q1 (P : PT) : QB Try.prog T0 26 o1 (ret P) k0 (B1 P) := fun _ _  => by kernel_rfl
abbrev k1 : Sk := [(0,.v),(1,.v),(5,.i .i64)]
noncomputable def o3 := ob Try.f15 [.r,.r,.l,.r,.l,.l,.r,.r]
def B3 (P : PT) (N2 : NTy k1 Pr) (x0 x1 : Value) (x5 : Int) (H : AHeap) : Prop :=
  N2 x0 x1 (IntKind.i64.wrap (x5 + 1)) H
theorem q3 (P : PT) (N2 : NTy k1 Pr) : QB Try.prog T0 26 o3 (En 26 k1 N2) k1 (B3 P N2) := fun _ _ _ _ _  => by kernel_rfl
noncomputable def o4 := ob Try.f15 [.r,.r,.l,.r,.l,.l,.r,.l,.l,.r,.l,.l]
def B4 (P : PT) (N2 : NTy k1 Pr) (H : AHeap) : Prop :=
  P (Value.bool false) H
theorem q4 (P : PT) (N2 : NTy k1 Pr) : QB Try.prog T0 26 o4 (ret P) k0 (B4 P N2) := fun _ _  => by kernel_rfl
noncomputable def o5 := ob Try.f15 [.r,.r,.l,.r,.l,.l,.r,.l,.l,.l]
def B5 (P : PT) (N2 : NTy k1 Pr) (x0 x1 : Value) (x5 : Int) (H : AHeap) : Prop :=
  idxK x0 x5 1 (fun b1 o2 => ldI .i64 H b1 o2 (fun v3 => idxK x1 x5 1 (fun b4 o5 => ldI .i64 H b4 o5 (fun v6 => pif ((v3 : Int) != v6) (B4 P N2 H) (B3 P N2 x0 x1 x5 H)))))
theorem q5 (P : PT) (N2 : NTy k1 Pr) : QD Try.prog T0 26 o5 [(0, false), (1, false), (2, false), (3, false), (4, false), (5, false), (6, false), (7, false), (8, false)] (cnd 25 (En 26 k0 (B4 P N2)) (En 26 k1 (B3 P N2))) k1 (B5 P N2) := fun _ _ _ _ _  => by kernel_rfl
noncomputable def o6 := ob Try.f15 [.r,.r,.l,.r,.l,.l,.l,.l]
def B6 (P : PT) (N2 : NTy k1 Pr) (x0 x1 : Value) (x5 : Int) (H : AHeap) : Prop :=
  lenK x0 (fun n1 => pif (decide ((x5 : Int) < (n1 : Int))) (B5 P N2 x0 x1 x5 H) (B1 P H))
theorem q6 (P : PT) (N2 : NTy k1 Pr) : QB Try.prog T0 26 o6 (cnd 14 (En 26 k1 (B5 P N2)) (En 26 k0 (B1 P))) k1 (B6 P N2) := fun _ _ _ _ _  => by kernel_rfl
def L2 (P : PT) (x0 x1 : Value) (x5 : Int) (H : AHeap) : Prop :=
  ∃ (I : NTy k1 Pr) (μ : NTy k1 (AHeap → Nat)), I x0 x1 x5 H ∧ ∀ y0 y1 y5 G, I y0 y1 y5 G → B6 P (fun z0 z1 z5 G' => I z0 z1 z5 G' ∧ μ z0 z1 z5 G' < μ y0 y1 y5 G) y0 y1 y5 G
theorem l2 (P : PT) : LQ k1 (L2 P) (B6 P) := fun ⟨_,_,_,_⟩ _ ⟨I, μ, h0, hI⟩ => ⟨apT _ I, apT _ μ, h0, fun ⟨_,_,_,_⟩ _ h => hI _ _ _ _  h⟩
abbrev k2 : Sk := [(0,.v),(1,.v)]
noncomputable def o7 := ob Try.f15 [.r,.r,.l,.l]
def B7 (P : PT) (x0 x1 : Value) (H : AHeap) : Prop :=
  L2 P x0 x1 0 H
theorem q7 (P : PT) : QB Try.prog T0 26 o7 (En 26 k1 (L2 P)) k2 (B7 P) := fun _ _ _ _  => by kernel_rfl
noncomputable def o8 := ob Try.f15 [.r,.l,.r,.l,.l]
def B8 (P : PT) (H : AHeap) : Prop :=
  P (Value.bool false) H
theorem q8 (P : PT) : QB Try.prog T0 26 o8 (ret P) k0 (B8 P) := fun _ _  => by kernel_rfl
noncomputable def o9 := ob Try.f15 [.r,.l,.l]
def B9 (P : PT) (x0 x1 : Value) (H : AHeap) : Prop :=
  lenK x0 (fun n1 => lenK x1 (fun n2 => pif (((n1 : Int) : Int) != (n2 : Int)) (B8 P H) (B7 P x0 x1 H)))
theorem q9 (P : PT) : QB Try.prog T0 26 o9 (cnd 10 (En 26 k0 (B8 P)) (En 26 k2 (B7 P))) k2 (B9 P) := fun _ _ _ _  => by kernel_rfl
noncomputable def o10 := ob Try.f15 [.l]
def B10 (P : PT) (x0 x1 : Value) (H : AHeap) : Prop :=
  B9 P x0 x1 H
theorem q10 (P : PT) : QB Try.prog T0 26 o10 (En 26 k2 (B9 P)) k2 (B10 P) := fun _ _ _ _  => by kernel_rfl
noncomputable def code : Code := (.seq (.region 0 ⟨o10⟩ false) (.seq (.seq (.region 1 ⟨o9⟩ false) (.cond (.tmp 10) (.seq (.region 2 ⟨o8⟩ false) .ret) .skip)) (.seq (.seq (.region 3 ⟨o7⟩ false) (.block 0 (.loop (.seq (.seq (.region 4 ⟨o6⟩ false) (.cond (.tmp 14) .skip (.exit 0))) (.seq (.block 1 (.seq (.region 6 ⟨o5⟩ true) (.cond (.tmp 25) (.seq (.region 7 ⟨o4⟩ false) .ret) .skip))) (.region 5 ⟨o3⟩ false)))))) (.seq (.region 8 ⟨o1⟩ false) .ret))))
theorem body : Try.f15.body = some code := by kernel_rfl
theorem main (P : PT) : ∀ env H, (En 26 k2 (B10 P)) env H → AW Try.prog T0 code env H (mkQ (ret P) (fun _ _ _ => False) (ret P)) :=
  (r_seq (rB T0_ok (q10 P)) (r_seq (r_seq (rB T0_ok (q9 P)) (r_cond rfl (r_seq (rB T0_ok (q8 P)) r_ret) r_skip)) (r_seq (r_seq (rB T0_ok (q7 P)) (r_block (rL (l2 P) (fun N2 => (r_seq (r_seq (rB T0_ok (q6 P N2)) (r_cond rfl r_skip (r_exit (fun _ _ h => h)))) (r_seq (r_block (r_seq (rD T0_ok mixed [(0, false), (1, false), (2, false), (3, false), (4, false), (5, false), (6, false), (7, false), (8, false)] (by kernel_rfl) (q5 P N2)) (r_cond rfl (r_seq (rB T0_ok (q4 P N2)) r_ret) r_skip))) (rB T0_ok (q3 P N2)))))))) (r_seq (rB T0_ok (q1 P)) r_ret))))
theorem ac (P : PT) (x0 x1 : Value) (H : AHeap) (h : B10 P x0 x1 H) : AC Try.prog T0 15 [x0, x1] H P :=
  r_fn T0_ok (c := code) (n := 26) Try.func15 body (by kernel_rfl) (main P) (En_mk (x0, x1, ()) (by kernel_rfl) ⟨by kernel_rfl, by kernel_rfl, trivial⟩ h)

end F15
-- loop.example/g01329/spec.NewDesk
namespace F21
noncomputable def ret (P : PT) : EP := retE T0 2 Try.f21 P
abbrev k0 : Sk := [(0,.x)]
noncomputable def o1 := ob Try.f21 [.r,.l]
def B1 (P : PT) (x0 : Nat) (H : AHeap) : Prop :=
  AC Try.prog T0 59 [] H (fun v1 H2 => agg4 v1 (fun v3 v4 v5 v6 => asI .i64 v3 (fun v7 => stK H2 x0 0 [(Value.int .i64 v7), v4, v5, v6] (fun H11 => ldI .i64 H11 x0 0 (fun v12 => ld1 H11 x0 1 (fun v13 => ld1 H11 x0 2 (fun v14 => ld1 H11 x0 3 (fun v15 => P (Value.agg ⟨[(Value.int .i64 v12), v13, v14, v15]⟩) H11))))))))
theorem q1 (P : PT) : QB Try.prog T0 2 o1 (ret P) k0 (B1 P) := fun _ _ _  => by kernel_rfl
abbrev k1 : Sk := []
noncomputable def o2 := ob Try.f21 [.l]
def B2 (P : PT) (H : AHeap) : Prop :=
  newK H [(Value.int .i64 0), (Value.slice none 0 0), (Value.slice none 0 0), (Value.slice none 0 0)] 45 (fun b1 H2 => B1 P b1 H2)
theorem q2 (P : PT) : QB Try.prog T0 2 o2 (En 2 k0 (B1 P)) k1 (B2 P) := fun _ _  => by kernel_rfl
noncomputable def code : Code := (.seq (.region 0 ⟨o2⟩ false) (.seq (.region 1 ⟨o1⟩ false) .ret))
theorem body : Try.f21.body = some code := by kernel_rfl
theorem main (P : PT) : ∀ env H, (En 2 k1 (B2 P)) env H → AW Try.prog T0 code env H (mkQ (ret P) (fun _ _ _ => False) (ret P)) :=
  (r_seq (rB T0_ok (q2 P)) (r_seq (rB T0_ok (q1 P)) r_ret))
theorem ac (P : PT) (H : AHeap) (h : B2 P H) : AC Try.prog T0 21 [] H P :=
  r_fn T0_ok (c := code) (n := 2) Try.func21 body (by kernel_rfl) (main P) (En_mk (()) (by kernel_rfl) trivial h)

end F21
-- loop.example/g01329/impl.NewDesk
namespace F22
noncomputable def ret (P : PT) : EP := retE T0 9 Try.f22 P
abbrev k0 : Sk := [(0,.x),(1,.x)]
noncomputable def o1 := ob Try.f22 [.r,.r,.l]
def B1 (P : PT) (x0 x1 : Nat) (H : AHeap) : Prop :=
  ldI .i64 H x1 0 (fun v1 => ld1 H x1 1 (fun v2 => stK H x0 0 [(Value.int .i64 v1), v2, (Value.slice none 0 0), (Value.slice none 0 0)] (fun H3 => ldI .i64 H3 x0 0 (fun v4 => ld1 H3 x0 1 (fun v5 => ld1 H3 x0 2 (fun v6 => ld1 H3 x0 3 (fun v7 => P (Value.agg ⟨[(Value.int .i64 v4), v5, v6, v7]⟩) H3)))))))
theorem q1 (P : PT) : QB Try.prog T0 9 o1 (ret P) k0 (B1 P) := fun _ _ _ _  => by kernel_rfl
abbrev k1 : Sk := [(0,.x)]
noncomputable def o2 := ob Try.f22 [.r,.l]
def B2 (P : PT) (x0 : Nat) (H : AHeap) : Prop :=
  AC Try.prog T0 60 [(Value.string (⟨#[107, 52]⟩))] H (fun v1 H2 => tup2 v1 (fun v3 v4 => agg2 v3 (fun v5 v6 => asI .i64 v5 (fun v7 => asI .i64 v4 (fun v9 => newK H2 [(Value.int .i64 0), (Value.slice none 0 0)] 31 (fun b10 H11 => stK H11 b10 0 [(Value.int .i64 v7), v6] (fun H12 => B1 P x0 b10 H12)))))))
theorem q2 (P : PT) : QB Try.prog T0 9 o2 (En 9 k0 (B1 P)) k1 (B2 P) := fun _ _ _  => by kernel_rfl
abbrev k2 : Sk := []
noncomputable def o3 := ob Try.f22 [.l]
def B3 (P : PT) (H : AHeap) : Prop :=
  newK H [(Value.int .i64 0), (Value.slice none 0 0), (Value.slice none 0 0), (Value.slice none 0 0)] 45 (fun b1 H2 => B2 P b1 H2)
theorem q3 (P : PT) : QB Try.prog T0 9 o3 (En 9 k1 (B2 P)) k2 (B3 P) := fun _ _  => by kernel_rfl
noncomputable def code : Code := (.seq (.region 0 ⟨o3⟩ false) (.seq (.region 1 ⟨o2⟩ false) (.seq (.region 2 ⟨o1⟩ false) .ret)))
theorem body : Try.f22.body = some code := by kernel_rfl
theorem main (P : PT) : ∀ env H, (En 9 k2 (B3 P)) env H → AW Try.prog T0 code env H (mkQ (ret P) (fun _ _ _ => False) (ret P)) :=
  (r_seq (rB T0_ok (q3 P)) (r_seq (rB T0_ok (q2 P)) (r_seq (rB T0_ok (q1 P)) r_ret)))
theorem ac (P : PT) (H : AHeap) (h : B3 P H) : AC Try.prog T0 22 [] H P :=
  r_fn T0_ok (c := code) (n := 9) Try.func22 body (by kernel_rfl) (main P) (En_mk (()) (by kernel_rfl) trivial h)

end F22
-- loop.example/g01329/laws.eqDesk
namespace F23
noncomputable def ret (P : PT) : EP := retE T0 23 Try.f23 P
abbrev k0 : Sk := []
noncomputable def o1 := ob Try.f23 [.r,.r,.r,.r,.l]
def B1 (P : PT) (H : AHeap) : Prop :=
  P (Value.bool true) H
theorem q1 (P : PT) : QB Try.prog T0 23 o1 (ret P) k0 (B1 P) := fun _ _  => by kernel_rfl
noncomputable def o2 := ob Try.f23 [.r,.r,.r,.l,.r,.l,.l]
def B2 (P : PT) (H : AHeap) : Prop :=
  P (Value.bool false) H
theorem q2 (P : PT) : QB Try.prog T0 23 o2 (ret P) k0 (B2 P) := fun _ _  => by kernel_rfl
abbrev k1 : Sk := [(2,.x),(3,.x)]
noncomputable def o3 := ob Try.f23 [.r,.r,.r,.l,.l]
def B3 (P : PT) (x2 x3 : Nat) (H : AHeap) : Prop :=
  ld1 H x2 3 (fun v1 => ld1 H x3 3 (fun v2 => AC Try.prog T0 15 [v1, v2] H (fun v3 H4 => asB v3 (fun v5 => pif (!v5) (B2 P H4) (B1 P H4)))))
theorem q3 (P : PT) : QB Try.prog T0 23 o3 (cnd 22 (En 23 k0 (B2 P)) (En 23 k0 (B1 P))) k1 (B3 P) := fun _ _ _ _  => by kernel_rfl
noncomputable def o4 := ob Try.f23 [.r,.r,.l,.r,.l,.l]
def B4 (P : PT) (H : AHeap) : Prop :=
  P (Value.bool false) H
theorem q4 (P : PT) : QB Try.prog T0 23 o4 (ret P) k0 (B4 P) := fun _ _  => by kernel_rfl
noncomputable def o5 := ob Try.f23 [.r,.r,.l,.l]
def B5 (P : PT) (x2 x3 : Nat) (H : AHeap) : Prop :=
  ld1 H x2 2 (fun v1 => ld1 H x3 2 (fun v2 => AC Try.prog T0 15 [v1, v2] H (fun v3 H4 => asB v3 (fun v5 => pif (!v5) (B4 P H4) (B3 P x2 x3 H4)))))
theorem q5 (P : PT) : QB Try.prog T0 23 o5 (cnd 16 (En 23 k0 (B4 P)) (En 23 k1 (B3 P))) k1 (B5 P) := fun _ _ _ _  => by kernel_rfl
noncomputable def o6 := ob Try.f23 [.r,.l,.r,.l,.l]
def B6 (P : PT) (H : AHeap) : Prop :=
  P (Value.bool false) H
theorem q6 (P : PT) : QB Try.prog T0 23 o6 (ret P) k0 (B6 P) := fun _ _  => by kernel_rfl
noncomputable def o7 := ob Try.f23 [.r,.l,.l]
def B7 (P : PT) (x2 x3 : Nat) (H : AHeap) : Prop :=
  ldI .i64 H x2 0 (fun v1 => ld1 H x2 1 (fun v2 => ldI .i64 H x3 0 (fun v3 => ld1 H x3 1 (fun v4 => AC Try.prog T0 14 [(Value.agg ⟨[(Value.int .i64 v1), v2]⟩), (Value.agg ⟨[(Value.int .i64 v3), v4]⟩)] H (fun v5 H6 => asB v5 (fun v7 => pif (!v7) (B6 P H6) (B5 P x2 x3 H6)))))))
theorem q7 (P : PT) : QB Try.prog T0 23 o7 (cnd 10 (En 23 k0 (B6 P)) (En 23 k1 (B5 P))) k1 (B7 P) := fun _ _ _ _  => by kernel_rfl
abbrev k2 : Sk := [(0,.g [.i,.v,.v,.v]),(1,.g [.i,.v,.v,.v])]
noncomputable def o8 := ob Try.f23 [.l]
def B8 (P : PT) (x0a : Int) (x0b x0c x0d : Value) (x1a : Int) (x1b x1c x1d : Value) (H : AHeap) : Prop :=
  newK H [(Value.int .i64 x0a), x0b, x0c, x0d] 45 (fun b1 H2 => newK H2 [(Value.int .i64 x1a), x1b, x1c, x1d] 45 (fun b3 H4 => B7 P b1 b3 H4))
theorem q8 (P : PT) : QB Try.prog T0 23 o8 (En 23 k1 (B7 P)) k2 (B8 P) := fun _ _ _ _ _ _ _ _ _ _  => by kernel_rfl
noncomputable def code : Code := (.seq (.region 0 ⟨o8⟩ false) (.seq (.seq (.region 1 ⟨o7⟩ false) (.cond (.tmp 10) (.seq (.region 2 ⟨o6⟩ false) .ret) .skip)) (.seq (.seq (.region 3 ⟨o5⟩ false) (.cond (.tmp 16) (.seq (.region 4 ⟨o4⟩ false) .ret) .skip)) (.seq (.seq (.region 5 ⟨o3⟩ false) (.cond (.tmp 22) (.seq (.region 6 ⟨o2⟩ false) .ret) .skip)) (.seq (.region 7 ⟨o1⟩ false) .ret)))))
theorem body : Try.f23.body = some code := by kernel_rfl
theorem main (P : PT) : ∀ env H, (En 23 k2 (B8 P)) env H → AW Try.prog T0 code env H (mkQ (ret P) (fun _ _ _ => False) (ret P)) :=
  (r_seq (rB T0_ok (q8 P)) (r_seq (r_seq (rB T0_ok (q7 P)) (r_cond rfl (r_seq (rB T0_ok (q6 P)) r_ret) r_skip)) (r_seq (r_seq (rB T0_ok (q5 P)) (r_cond rfl (r_seq (rB T0_ok (q4 P)) r_ret) r_skip)) (r_seq (r_seq (rB T0_ok (q3 P)) (r_cond rfl (r_seq (rB T0_ok (q2 P)) r_ret) r_skip)) (r_seq (rB T0_ok (q1 P)) r_ret)))))
theorem ac (P : PT) (x0a : Int) (x0b x0c x0d : Value) (x1a : Int) (x1b x1c x1d : Value) (H : AHeap) (h : B8 P x0a x0b x0c x0d x1a x1b x1c x1d H) : AC Try.prog T0 23 [(Value.agg ⟨[(Value.int .i64 x0a), x0b, x0c, x0d]⟩), (Value.agg ⟨[(Value.int .i64 x1a), x1b, x1c, x1d]⟩)] H P :=
  r_fn T0_ok (c := code) (n := 23) Try.func23 body (by kernel_rfl) (main P) (En_mk (x0a, x0b, x0c, x0d, x1a, x1b, x1c, x1d, ()) (by kernel_rfl) ⟨by kernel_rfl, by kernel_rfl, trivial⟩ h)

end F23
-- loop.example/g01329/laws.markDesk
namespace F24
noncomputable def ret (P : PT) : EP := retE T0 18 Try.f24 P
abbrev k0 : Sk := [(1,.i .i64)]
noncomputable def o1 := ob Try.f24 [.r,.r,.r,.r,.l]
def B1 (P : PT) (x1 : Int) (H : AHeap) : Prop :=
  P (Value.int .i64 x1) H
theorem q1 (P : PT) : QB Try.prog T0 18 o1 (ret P) k0 (B1 P) := fun _ _ _  => by kernel_rfl
abbrev k1 : Sk := [(1,.i .i64),(2,.x)]
noncomputable def o2 := ob Try.f24 [.r,.r,.r,.l]
def B2 (P : PT) (x1 : Int) (x2 : Nat) (H : AHeap) : Prop :=
  ld1 H x2 3 (fun v1 => AC Try.prog T0 29 [v1, (Value.int .i64 x1)] H (fun v2 H3 => asI .i64 v2 (fun v4 => B1 P v4 H3)))
theorem q2 (P : PT) : QB Try.prog T0 18 o2 (En 18 k0 (B1 P)) k1 (B2 P) := fun _ _ _ _  => by kernel_rfl
noncomputable def o3 := ob Try.f24 [.r,.r,.l]
def B3 (P : PT) (x1 : Int) (x2 : Nat) (H : AHeap) : Prop :=
  ld1 H x2 2 (fun v1 => AC Try.prog T0 29 [v1, (Value.int .i64 x1)] H (fun v2 H3 => asI .i64 v2 (fun v4 => B2 P v4 x2 H3)))
theorem q3 (P : PT) : QB Try.prog T0 18 o3 (En 18 k1 (B2 P)) k1 (B3 P) := fun _ _ _ _  => by kernel_rfl
noncomputable def o4 := ob Try.f24 [.r,.l]
def B4 (P : PT) (x1 : Int) (x2 : Nat) (H : AHeap) : Prop :=
  ldI .i64 H x2 0 (fun v1 => ld1 H x2 1 (fun v2 => AC Try.prog T0 28 [(Value.agg ⟨[(Value.int .i64 v1), v2]⟩), (Value.int .i64 x1)] H (fun v3 H4 => asI .i64 v3 (fun v5 => B3 P v5 x2 H4))))
theorem q4 (P : PT) : QB Try.prog T0 18 o4 (En 18 k1 (B3 P)) k1 (B4 P) := fun _ _ _ _  => by kernel_rfl
abbrev k2 : Sk := [(0,.g [.i,.v,.v,.v]),(1,.i .i64)]
noncomputable def o5 := ob Try.f24 [.l]
def B5 (P : PT) (x0a : Int) (x0b x0c x0d : Value) (x1 : Int) (H : AHeap) : Prop :=
  newK H [(Value.int .i64 x0a), x0b, x0c, x0d] 45 (fun b1 H2 => B4 P x1 b1 H2)
theorem q5 (P : PT) : QB Try.prog T0 18 o5 (En 18 k1 (B4 P)) k2 (B5 P) := fun _ _ _ _ _ _ _  => by kernel_rfl
noncomputable def code : Code := (.seq (.region 0 ⟨o5⟩ false) (.seq (.region 1 ⟨o4⟩ false) (.seq (.region 2 ⟨o3⟩ false) (.seq (.region 3 ⟨o2⟩ false) (.seq (.region 4 ⟨o1⟩ false) .ret)))))
theorem body : Try.f24.body = some code := by kernel_rfl
theorem main (P : PT) : ∀ env H, (En 18 k2 (B5 P)) env H → AW Try.prog T0 code env H (mkQ (ret P) (fun _ _ _ => False) (ret P)) :=
  (r_seq (rB T0_ok (q5 P)) (r_seq (rB T0_ok (q4 P)) (r_seq (rB T0_ok (q3 P)) (r_seq (rB T0_ok (q2 P)) (r_seq (rB T0_ok (q1 P)) r_ret)))))
theorem ac (P : PT) (x0a : Int) (x0b x0c x0d : Value) (x1 : Int) (H : AHeap) (h : B5 P x0a x0b x0c x0d x1 H) : AC Try.prog T0 24 [(Value.agg ⟨[(Value.int .i64 x0a), x0b, x0c, x0d]⟩), (Value.int .i64 x1)] H P :=
  r_fn T0_ok (c := code) (n := 18) Try.func24 body (by kernel_rfl) (main P) (En_mk (x0a, x0b, x0c, x0d, x1, ()) (by kernel_rfl) ⟨by kernel_rfl, by kernel_rfl, trivial⟩ h)

end F24
-- loop.example/g01329/laws.heldDesk
namespace F25
noncomputable def ret (P : PT) : EP := retE T0 24 Try.f25 P
abbrev k0 : Sk := [(1,.i .i64)]
noncomputable def o1 := ob Try.f25 [.r,.r,.r,.r,.r,.r,.r,.l]
def B1 (P : PT) (x1 : Int) (H : AHeap) : Prop :=
  P (Value.int .i64 x1) H
theorem q1 (P : PT) : QB Try.prog T0 24 o1 (ret P) k0 (B1 P) := fun _ _ _  => by kernel_rfl
abbrev k1 : Sk := []
noncomputable def o2 := ob Try.f25 [.r,.r,.r,.r,.r,.r,.l,.r,.l,.l]
def B2 (P : PT) (H : AHeap) : Prop :=
  P (Value.int .i64 (-1)) H
theorem q2 (P : PT) : QB Try.prog T0 24 o2 (ret P) k1 (B2 P) := fun _ _  => by kernel_rfl
noncomputable def o3 := ob Try.f25 [.r,.r,.r,.r,.r,.r,.l,.l]
def B3 (P : PT) (x1 : Int) (H : AHeap) : Prop :=
  pif (decide ((x1 : Int) < 0)) (B2 P H) (B1 P x1 H)
theorem q3 (P : PT) : QB Try.prog T0 24 o3 (cnd 22 (En 24 k1 (B2 P)) (En 24 k0 (B1 P))) k0 (B3 P) := fun _ _ _  => by kernel_rfl
abbrev k2 : Sk := [(1,.i .i64),(2,.x)]
noncomputable def o4 := ob Try.f25 [.r,.r,.r,.r,.r,.l]
def B4 (P : PT) (x1 : Int) (x2 : Nat) (H : AHeap) : Prop :=
  ld1 H x2 3 (fun v1 => AC Try.prog T0 30 [v1, (Value.int .i64 x1)] H (fun v2 H3 => asI .i64 v2 (fun v4 => B3 P v4 H3)))
theorem q4 (P : PT) : QB Try.prog T0 24 o4 (En 24 k0 (B3 P)) k2 (B4 P) := fun _ _ _ _  => by kernel_rfl
noncomputable def o5 := ob Try.f25 [.r,.r,.r,.r,.l,.r,.l,.l]
def B5 (P : PT) (H : AHeap) : Prop :=
  P (Value.int .i64 (-1)) H
theorem q5 (P : PT) : QB Try.prog T0 24 o5 (ret P) k1 (B5 P) := fun _ _  => by kernel_rfl
noncomputable def o6 := ob Try.f25 [.r,.r,.r,.r,.l,.l]
def B6 (P : PT) (x1 : Int) (x2 : Nat) (H : AHeap) : Prop :=
  pif (decide ((x1 : Int) < 0)) (B5 P H) (B4 P x1 x2 H)
theorem q6 (P : PT) : QB Try.prog T0 24 o6 (cnd 16 (En 24 k1 (B5 P)) (En 24 k2 (B4 P))) k2 (B6 P) := fun _ _ _ _  => by kernel_rfl
noncomputable def o7 := ob Try.f25 [.r,.r,.r,.l]
def B7 (P : PT) (x1 : Int) (x2 : Nat) (H : AHeap) : Prop :=
  ld1 H x2 2 (fun v1 => AC Try.prog T0 30 [v1, (Value.int .i64 x1)] H (fun v2 H3 => asI .i64 v2 (fun v4 => B6 P v4 x2 H3)))
theorem q7 (P : PT) : QB Try.prog T0 24 o7 (En 24 k2 (B6 P)) k2 (B7 P) := fun _ _ _ _  => by kernel_rfl
noncomputable def o8 := ob Try.f25 [.r,.r,.l,.r,.l,.l]
def B8 (P : PT) (H : AHeap) : Prop :=
  P (Value.int .i64 (-1)) H
theorem q8 (P : PT) : QB Try.prog T0 24 o8 (ret P) k1 (B8 P) := fun _ _  => by kernel_rfl
noncomputable def o9 := ob Try.f25 [.r,.r,.l,.l]
def B9 (P : PT) (x1 : Int) (x2 : Nat) (H : AHeap) : Prop :=
  pif (decide ((x1 : Int) < 0)) (B8 P H) (B7 P x1 x2 H)
theorem q9 (P : PT) : QB Try.prog T0 24 o9 (cnd 10 (En 24 k1 (B8 P)) (En 24 k2 (B7 P))) k2 (B9 P) := fun _ _ _ _  => by kernel_rfl
noncomputable def o10 := ob Try.f25 [.r,.l]
def B10 (P : PT) (x1 : Int) (x2 : Nat) (H : AHeap) : Prop :=
  ldI .i64 H x2 0 (fun v1 => ld1 H x2 1 (fun v2 => AC Try.prog T0 61 [(Value.agg ⟨[(Value.int .i64 v1), v2]⟩), (Value.int .i64 x1)] H (fun v3 H4 => asI .i64 v3 (fun v5 => B9 P v5 x2 H4))))
theorem q10 (P : PT) : QB Try.prog T0 24 o10 (En 24 k2 (B9 P)) k2 (B10 P) := fun _ _ _ _  => by kernel_rfl
abbrev k3 : Sk := [(0,.g [.i,.v,.v,.v]),(1,.i .i64)]
noncomputable def o11 := ob Try.f25 [.l]
def B11 (P : PT) (x0a : Int) (x0b x0c x0d : Value) (x1 : Int) (H : AHeap) : Prop :=
  newK H [(Value.int .i64 x0a), x0b, x0c, x0d] 45 (fun b1 H2 => B10 P x1 b1 H2)
theorem q11 (P : PT) : QB Try.prog T0 24 o11 (En 24 k2 (B10 P)) k3 (B11 P) := fun _ _ _ _ _ _ _  => by kernel_rfl
noncomputable def code : Code := (.seq (.region 0 ⟨o11⟩ false) (.seq (.region 1 ⟨o10⟩ false) (.seq (.seq (.region 2 ⟨o9⟩ false) (.cond (.tmp 10) (.seq (.region 3 ⟨o8⟩ false) .ret) .skip)) (.seq (.region 4 ⟨o7⟩ false) (.seq (.seq (.region 5 ⟨o6⟩ false) (.cond (.tmp 16) (.seq (.region 6 ⟨o5⟩ false) .ret) .skip)) (.seq (.region 7 ⟨o4⟩ false) (.seq (.seq (.region 8 ⟨o3⟩ false) (.cond (.tmp 22) (.seq (.region 9 ⟨o2⟩ false) .ret) .skip)) (.seq (.region 10 ⟨o1⟩ false) .ret))))))))
theorem body : Try.f25.body = some code := by kernel_rfl
theorem main (P : PT) : ∀ env H, (En 24 k3 (B11 P)) env H → AW Try.prog T0 code env H (mkQ (ret P) (fun _ _ _ => False) (ret P)) :=
  (r_seq (rB T0_ok (q11 P)) (r_seq (rB T0_ok (q10 P)) (r_seq (r_seq (rB T0_ok (q9 P)) (r_cond rfl (r_seq (rB T0_ok (q8 P)) r_ret) r_skip)) (r_seq (rB T0_ok (q7 P)) (r_seq (r_seq (rB T0_ok (q6 P)) (r_cond rfl (r_seq (rB T0_ok (q5 P)) r_ret) r_skip)) (r_seq (rB T0_ok (q4 P)) (r_seq (r_seq (rB T0_ok (q3 P)) (r_cond rfl (r_seq (rB T0_ok (q2 P)) r_ret) r_skip)) (r_seq (rB T0_ok (q1 P)) r_ret))))))))
theorem ac (P : PT) (x0a : Int) (x0b x0c x0d : Value) (x1 : Int) (H : AHeap) (h : B11 P x0a x0b x0c x0d x1 H) : AC Try.prog T0 25 [(Value.agg ⟨[(Value.int .i64 x0a), x0b, x0c, x0d]⟩), (Value.int .i64 x1)] H P :=
  r_fn T0_ok (c := code) (n := 24) Try.func25 body (by kernel_rfl) (main P) (En_mk (x0a, x0b, x0c, x0d, x1, ()) (by kernel_rfl) ⟨by kernel_rfl, by kernel_rfl, trivial⟩ h)

end F25
-- loop.example/g01329/laws.markGraph
namespace F28
noncomputable def ret (P : PT) : EP := retE T0 10 Try.f28 P
abbrev k0 : Sk := [(1,.i .i64)]
noncomputable def o1 := ob Try.f28 [.r,.r,.l]
def B1 (P : PT) (x1 : Int) (H : AHeap) : Prop :=
  P (Value.int .i64 x1) H
theorem q1 (P : PT) : QB Try.prog T0 10 o1 (ret P) k0 (B1 P) := fun _ _ _  => by kernel_rfl
abbrev k1 : Sk := [(1,.i .i64),(2,.x)]
noncomputable def o2 := ob Try.f28 [.r,.l]
def B2 (P : PT) (x1 : Int) (x2 : Nat) (H : AHeap) : Prop :=
  ld1 H x2 1 (fun v1 => AC Try.prog T0 68 [v1, (Value.int .i64 x1)] H (fun v2 H3 => asI .i64 v2 (fun v4 => B1 P v4 H3)))
theorem q2 (P : PT) : QB Try.prog T0 10 o2 (En 10 k0 (B1 P)) k1 (B2 P) := fun _ _ _ _  => by kernel_rfl
abbrev k2 : Sk := [(0,.g [.i,.v]),(1,.i .i64)]
noncomputable def o3 := ob Try.f28 [.l]
def B3 (P : PT) (x0a : Int) (x0b : Value) (x1 : Int) (H : AHeap) : Prop :=
  newK H [(Value.int .i64 x0a), x0b] 31 (fun b1 H2 => B2 P x1 b1 H2)
theorem q3 (P : PT) : QB Try.prog T0 10 o3 (En 10 k1 (B2 P)) k2 (B3 P) := fun _ _ _ _ _  => by kernel_rfl
noncomputable def code : Code := (.seq (.region 0 ⟨o3⟩ false) (.seq (.region 1 ⟨o2⟩ false) (.seq (.region 2 ⟨o1⟩ false) .ret)))
theorem body : Try.f28.body = some code := by kernel_rfl
theorem main (P : PT) : ∀ env H, (En 10 k2 (B3 P)) env H → AW Try.prog T0 code env H (mkQ (ret P) (fun _ _ _ => False) (ret P)) :=
  (r_seq (rB T0_ok (q3 P)) (r_seq (rB T0_ok (q2 P)) (r_seq (rB T0_ok (q1 P)) r_ret)))
theorem ac (P : PT) (x0a : Int) (x0b : Value) (x1 : Int) (H : AHeap) (h : B3 P x0a x0b x1 H) : AC Try.prog T0 28 [(Value.agg ⟨[(Value.int .i64 x0a), x0b]⟩), (Value.int .i64 x1)] H P :=
  r_fn T0_ok (c := code) (n := 10) Try.func28 body (by kernel_rfl) (main P) (En_mk (x0a, x0b, x1, ()) (by kernel_rfl) ⟨by kernel_rfl, by kernel_rfl, trivial⟩ h)

end F28
-- loop.example/g01329/laws.markInt64S
namespace F29
noncomputable def ret (P : PT) : EP := retE T0 19 Try.f29 P
abbrev k0 : Sk := [(1,.i .i64)]
noncomputable def o1 := ob Try.f29 [.r,.r,.l]
def B1 (P : PT) (x1 : Int) (H : AHeap) : Prop :=
  P (Value.int .i64 x1) H
theorem q1 (P : PT) : QB Try.prog T0 19 o1 (ret P) k0 (B1 P) := fun _ _ _  => by kernel_rfl
abbrev k1 : Sk := [(0,.v),(1,.i .i64),(5,.i .i64)]
noncomputable def o3 := ob Try.f29 [.r,.l,.r,.l,.l,.r,.r]
def B3 (P : PT) (N2 : NTy k1 Pr) (x0 : Value) (x1 x5 : Int) (H : AHeap) : Prop :=
  N2 x0 x1 (IntKind.i64.wrap (x5 + 1)) H
theorem q3 (P : PT) (N2 : NTy k1 Pr) : QB Try.prog T0 19 o3 (En 19 k1 N2) k1 (B3 P N2) := fun _ _ _ _ _  => by kernel_rfl
noncomputable def o4 := ob Try.f29 [.r,.l,.r,.l,.l,.r,.l,.l,.r]
def B4 (P : PT) (N2 : NTy k1 Pr) (x0 : Value) (x1 x5 : Int) (H : AHeap) : Prop :=
  B3 P N2 x0 (IntKind.i64.wrap (x1 + 1)) x5 H
theorem q4 (P : PT) (N2 : NTy k1 Pr) : QB Try.prog T0 19 o4 (En 19 k1 (B3 P N2)) k1 (B4 P N2) := fun _ _ _ _ _  => by kernel_rfl
noncomputable def o5 := ob Try.f29 [.r,.l,.r,.l,.l,.r,.l,.l,.l]
def B5 (P : PT) (N2 : NTy k1 Pr) (x0 : Value) (x1 x5 : Int) (H : AHeap) : Prop :=
  idxK x0 x5 1 (fun b1 o2 => stK H b1 o2 [(Value.int .i64 x1)] (fun H3 => B4 P N2 x0 x1 x5 H3))
theorem q5 (P : PT) (N2 : NTy k1 Pr) : QB Try.prog T0 19 o5 (En 19 k1 (B4 P N2)) k1 (B5 P N2) := fun _ _ _ _ _  => by kernel_rfl
noncomputable def o6 := ob Try.f29 [.r,.l,.r,.l,.l,.l,.l]
def B6 (P : PT) (N2 : NTy k1 Pr) (x0 : Value) (x1 x5 : Int) (H : AHeap) : Prop :=
  lenK x0 (fun n1 => pif (decide ((x5 : Int) < (n1 : Int))) (B5 P N2 x0 x1 x5 H) (B1 P x1 H))
theorem q6 (P : PT) (N2 : NTy k1 Pr) : QB Try.prog T0 19 o6 (cnd 9 (En 19 k1 (B5 P N2)) (En 19 k0 (B1 P))) k1 (B6 P N2) := fun _ _ _ _ _  => by kernel_rfl
def L2 (P : PT) (x0 : Value) (x1 x5 : Int) (H : AHeap) : Prop :=
  ∃ (I : NTy k1 Pr) (μ : NTy k1 (AHeap → Nat)), I x0 x1 x5 H ∧ ∀ y0 y1 y5 G, I y0 y1 y5 G → B6 P (fun z0 z1 z5 G' => I z0 z1 z5 G' ∧ μ z0 z1 z5 G' < μ y0 y1 y5 G) y0 y1 y5 G
theorem l2 (P : PT) : LQ k1 (L2 P) (B6 P) := fun ⟨_,_,_,_⟩ _ ⟨I, μ, h0, hI⟩ => ⟨apT _ I, apT _ μ, h0, fun ⟨_,_,_,_⟩ _ h => hI _ _ _ _  h⟩
abbrev k2 : Sk := [(0,.v),(1,.i .i64)]
noncomputable def o7 := ob Try.f29 [.r,.l,.l]
def B7 (P : PT) (x0 : Value) (x1 : Int) (H : AHeap) : Prop :=
  L2 P x0 x1 0 H
theorem q7 (P : PT) : QB Try.prog T0 19 o7 (En 19 k1 (L2 P)) k2 (B7 P) := fun _ _ _ _  => by kernel_rfl
noncomputable def o8 := ob Try.f29 [.l]
def B8 (P : PT) (x0 : Value) (x1 : Int) (H : AHeap) : Prop :=
  B7 P x0 x1 H
theorem q8 (P : PT) : QB Try.prog T0 19 o8 (En 19 k2 (B7 P)) k2 (B8 P) := fun _ _ _ _  => by kernel_rfl
noncomputable def code : Code := (.seq (.region 0 ⟨o8⟩ false) (.seq (.seq (.region 1 ⟨o7⟩ false) (.block 0 (.loop (.seq (.seq (.region 2 ⟨o6⟩ false) (.cond (.tmp 9) .skip (.exit 0))) (.seq (.block 1 (.seq (.region 4 ⟨o5⟩ false) (.region 5 ⟨o4⟩ false))) (.region 3 ⟨o3⟩ false)))))) (.seq (.region 6 ⟨o1⟩ false) .ret)))
theorem body : Try.f29.body = some code := by kernel_rfl
theorem main (P : PT) : ∀ env H, (En 19 k2 (B8 P)) env H → AW Try.prog T0 code env H (mkQ (ret P) (fun _ _ _ => False) (ret P)) :=
  (r_seq (rB T0_ok (q8 P)) (r_seq (r_seq (rB T0_ok (q7 P)) (r_block (rL (l2 P) (fun N2 => (r_seq (r_seq (rB T0_ok (q6 P N2)) (r_cond rfl r_skip (r_exit (fun _ _ h => h)))) (r_seq (r_block (r_seq (rB T0_ok (q5 P N2)) (rB T0_ok (q4 P N2)))) (rB T0_ok (q3 P N2)))))))) (r_seq (rB T0_ok (q1 P)) r_ret)))
theorem ac (P : PT) (x0 : Value) (x1 : Int) (H : AHeap) (h : B8 P x0 x1 H) : AC Try.prog T0 29 [x0, (Value.int .i64 x1)] H P :=
  r_fn T0_ok (c := code) (n := 19) Try.func29 body (by kernel_rfl) (main P) (En_mk (x0, x1, ()) (by kernel_rfl) ⟨by kernel_rfl, by kernel_rfl, trivial⟩ h)

end F29
-- loop.example/g01329/laws.heldInt64S
namespace F30
noncomputable def ret (P : PT) : EP := retE T0 21 Try.f30 P
abbrev k0 : Sk := [(1,.i .i64)]
noncomputable def o1 := ob Try.f30 [.r,.r,.l]
def B1 (P : PT) (x1 : Int) (H : AHeap) : Prop :=
  P (Value.int .i64 x1) H
theorem q1 (P : PT) : QB Try.prog T0 21 o1 (ret P) k0 (B1 P) := fun _ _ _  => by kernel_rfl
abbrev k1 : Sk := [(0,.v),(1,.i .i64),(5,.i .i64)]
noncomputable def o3 := ob Try.f30 [.r,.l,.r,.l,.l,.r,.r]
def B3 (P : PT) (N2 : NTy k1 Pr) (x0 : Value) (x1 x5 : Int) (H : AHeap) : Prop :=
  N2 x0 x1 (IntKind.i64.wrap (x5 + 1)) H
theorem q3 (P : PT) (N2 : NTy k1 Pr) : QB Try.prog T0 21 o3 (En 21 k1 N2) k1 (B3 P N2) := fun _ _ _ _ _  => by kernel_rfl
noncomputable def o4 := ob Try.f30 [.r,.l,.r,.l,.l,.r,.l,.l,.r]
def B4 (P : PT) (N2 : NTy k1 Pr) (x0 : Value) (x1 x5 : Int) (H : AHeap) : Prop :=
  B3 P N2 x0 (IntKind.i64.wrap (x1 + 1)) x5 H
theorem q4 (P : PT) (N2 : NTy k1 Pr) : QB Try.prog T0 21 o4 (En 21 k1 (B3 P N2)) k1 (B4 P N2) := fun _ _ _ _ _  => by kernel_rfl
abbrev k2 : Sk := []
noncomputable def o5 := ob Try.f30 [.r,.l,.r,.l,.l,.r,.l,.l,.l,.r,.l,.l]
def B5 (P : PT) (N2 : NTy k1 Pr) (H : AHeap) : Prop :=
  P (Value.int .i64 (-1)) H
theorem q5 (P : PT) (N2 : NTy k1 Pr) : QB Try.prog T0 21 o5 (ret P) k2 (B5 P N2) := fun _ _  => by kernel_rfl
noncomputable def o6 := ob Try.f30 [.r,.l,.r,.l,.l,.r,.l,.l,.l,.l]
def B6 (P : PT) (N2 : NTy k1 Pr) (x0 : Value) (x1 x5 : Int) (H : AHeap) : Prop :=
  idxK x0 x5 1 (fun b1 o2 => ldI .i64 H b1 o2 (fun v3 => pif ((v3 : Int) != x1) (B5 P N2 H) (B4 P N2 x0 x1 x5 H)))
theorem q6 (P : PT) (N2 : NTy k1 Pr) : QB Try.prog T0 21 o6 (cnd 17 (En 21 k2 (B5 P N2)) (En 21 k1 (B4 P N2))) k1 (B6 P N2) := fun _ _ _ _ _  => by kernel_rfl
noncomputable def o7 := ob Try.f30 [.r,.l,.r,.l,.l,.l,.l]
def B7 (P : PT) (N2 : NTy k1 Pr) (x0 : Value) (x1 x5 : Int) (H : AHeap) : Prop :=
  lenK x0 (fun n1 => pif (decide ((x5 : Int) < (n1 : Int))) (B6 P N2 x0 x1 x5 H) (B1 P x1 H))
theorem q7 (P : PT) (N2 : NTy k1 Pr) : QB Try.prog T0 21 o7 (cnd 9 (En 21 k1 (B6 P N2)) (En 21 k0 (B1 P))) k1 (B7 P N2) := fun _ _ _ _ _  => by kernel_rfl
def L2 (P : PT) (x0 : Value) (x1 x5 : Int) (H : AHeap) : Prop :=
  ∃ (I : NTy k1 Pr) (μ : NTy k1 (AHeap → Nat)), I x0 x1 x5 H ∧ ∀ y0 y1 y5 G, I y0 y1 y5 G → B7 P (fun z0 z1 z5 G' => I z0 z1 z5 G' ∧ μ z0 z1 z5 G' < μ y0 y1 y5 G) y0 y1 y5 G
theorem l2 (P : PT) : LQ k1 (L2 P) (B7 P) := fun ⟨_,_,_,_⟩ _ ⟨I, μ, h0, hI⟩ => ⟨apT _ I, apT _ μ, h0, fun ⟨_,_,_,_⟩ _ h => hI _ _ _ _  h⟩
abbrev k3 : Sk := [(0,.v),(1,.i .i64)]
noncomputable def o8 := ob Try.f30 [.r,.l,.l]
def B8 (P : PT) (x0 : Value) (x1 : Int) (H : AHeap) : Prop :=
  L2 P x0 x1 0 H
theorem q8 (P : PT) : QB Try.prog T0 21 o8 (En 21 k1 (L2 P)) k3 (B8 P) := fun _ _ _ _  => by kernel_rfl
noncomputable def o9 := ob Try.f30 [.l]
def B9 (P : PT) (x0 : Value) (x1 : Int) (H : AHeap) : Prop :=
  B8 P x0 x1 H
theorem q9 (P : PT) : QB Try.prog T0 21 o9 (En 21 k3 (B8 P)) k3 (B9 P) := fun _ _ _ _  => by kernel_rfl
noncomputable def code : Code := (.seq (.region 0 ⟨o9⟩ false) (.seq (.seq (.region 1 ⟨o8⟩ false) (.block 0 (.loop (.seq (.seq (.region 2 ⟨o7⟩ false) (.cond (.tmp 9) .skip (.exit 0))) (.seq (.block 1 (.seq (.seq (.region 4 ⟨o6⟩ false) (.cond (.tmp 17) (.seq (.region 5 ⟨o5⟩ false) .ret) .skip)) (.region 6 ⟨o4⟩ false))) (.region 3 ⟨o3⟩ false)))))) (.seq (.region 7 ⟨o1⟩ false) .ret)))
theorem body : Try.f30.body = some code := by kernel_rfl
theorem main (P : PT) : ∀ env H, (En 21 k3 (B9 P)) env H → AW Try.prog T0 code env H (mkQ (ret P) (fun _ _ _ => False) (ret P)) :=
  (r_seq (rB T0_ok (q9 P)) (r_seq (r_seq (rB T0_ok (q8 P)) (r_block (rL (l2 P) (fun N2 => (r_seq (r_seq (rB T0_ok (q7 P N2)) (r_cond rfl r_skip (r_exit (fun _ _ h => h)))) (r_seq (r_block (r_seq (r_seq (rB T0_ok (q6 P N2)) (r_cond rfl (r_seq (rB T0_ok (q5 P N2)) r_ret) r_skip)) (rB T0_ok (q4 P N2)))) (rB T0_ok (q3 P N2)))))))) (r_seq (rB T0_ok (q1 P)) r_ret)))
theorem ac (P : PT) (x0 : Value) (x1 : Int) (H : AHeap) (h : B9 P x0 x1 H) : AC Try.prog T0 30 [x0, (Value.int .i64 x1)] H P :=
  r_fn T0_ok (c := code) (n := 21) Try.func30 body (by kernel_rfl) (main P) (En_mk (x0, x1, ()) (by kernel_rfl) ⟨by kernel_rfl, by kernel_rfl, trivial⟩ h)

end F30
-- loop.example/g01329/impl.length[loop.example/g01329/impl.Edge]
namespace F44
noncomputable def ret (P : PT) : EP := retE T0 5 Try.f44 P
abbrev k0 : Sk := [(0,.v)]
noncomputable def o1 := ob Try.f44 [.r,.l]
def B1 (P : PT) (x0 : Value) (H : AHeap) : Prop :=
  lenK x0 (fun n1 => P (Value.int .i64 (n1 : Int)) H)
theorem q1 (P : PT) : QB Try.prog T0 5 o1 (ret P) k0 (B1 P) := fun _ _ _  => by kernel_rfl
noncomputable def o2 := ob Try.f44 [.l]
def B2 (P : PT) (x0 : Value) (H : AHeap) : Prop :=
  B1 P x0 H
theorem q2 (P : PT) : QB Try.prog T0 5 o2 (En 5 k0 (B1 P)) k0 (B2 P) := fun _ _ _  => by kernel_rfl
noncomputable def code : Code := (.seq (.region 0 ⟨o2⟩ false) (.seq (.region 1 ⟨o1⟩ false) .ret))
theorem body : Try.f44.body = some code := by kernel_rfl
theorem main (P : PT) : ∀ env H, (En 5 k0 (B2 P)) env H → AW Try.prog T0 code env H (mkQ (ret P) (fun _ _ _ => False) (ret P)) :=
  (r_seq (rB T0_ok (q2 P)) (r_seq (rB T0_ok (q1 P)) r_ret))
theorem ac (P : PT) (x0 : Value) (H : AHeap) (h : B2 P x0 H) : AC Try.prog T0 44 [x0] H P :=
  r_fn T0_ok (c := code) (n := 5) Try.func44 body (by kernel_rfl) (main P) (En_mk (x0, ()) (by kernel_rfl) ⟨by kernel_rfl, trivial⟩ h)

end F44
-- loop.example/g01329/laws.eqEdgeS
namespace F46
noncomputable def ret (P : PT) : EP := retE T0 27 Try.f46 P
abbrev k0 : Sk := []
noncomputable def o1 := ob Try.f46 [.r,.r,.r,.l]
def B1 (P : PT) (H : AHeap) : Prop :=
  P (Value.bool true) H
theorem q1 (P : PT) : QB Try.prog T0 27 o1 (ret P) k0 (B1 P) := fun _ _  => by kernel_rfl
abbrev k1 : Sk := [(0,.v),(1,.v),(5,.i .i64)]
noncomputable def o3 := ob Try.f46 [.r,.r,.l,.r,.l,.l,.r,.r]
def B3 (P : PT) (N2 : NTy k1 Pr) (x0 x1 : Value) (x5 : Int) (H : AHeap) : Prop :=
  N2 x0 x1 (IntKind.i64.wrap (x5 + 1)) H
theorem q3 (P : PT) (N2 : NTy k1 Pr) : QB Try.prog T0 27 o3 (En 27 k1 N2) k1 (B3 P N2) := fun _ _ _ _ _  => by kernel_rfl
noncomputable def o4 := ob Try.f46 [.r,.r,.l,.r,.l,.l,.r,.l,.l,.r,.l,.l]
def B4 (P : PT) (N2 : NTy k1 Pr) (H : AHeap) : Prop :=
  P (Value.bool false) H
theorem q4 (P : PT) (N2 : NTy k1 Pr) : QB Try.prog T0 27 o4 (ret P) k0 (B4 P N2) := fun _ _  => by kernel_rfl
noncomputable def o5 := ob Try.f46 [.r,.r,.l,.r,.l,.l,.r,.l,.l,.l]
def B5 (P : PT) (N2 : NTy k1 Pr) (x0 x1 : Value) (x5 : Int) (H : AHeap) : Prop :=
  idxK x0 x5 2 (fun b1 o2 => ldI .i64 H b1 o2 (fun v3 => ldI .i64 H b1 (o2 + 1) (fun v4 => idxK x1 x5 2 (fun b5 o6 => ldI .i64 H b5 o6 (fun v7 => ldI .i64 H b5 (o6 + 1) (fun v8 => AC Try.prog T0 83 [(Value.agg ⟨[(Value.int .i64 v3), (Value.int .i64 v4)]⟩), (Value.agg ⟨[(Value.int .i64 v7), (Value.int .i64 v8)]⟩)] H (fun v9 H10 => asB v9 (fun v11 => pif (!v11) (B4 P N2 H10) (B3 P N2 x0 x1 x5 H10)))))))))
theorem q5 (P : PT) (N2 : NTy k1 Pr) : QD Try.prog T0 27 o5 [(0, false), (1, false), (2, false), (3, false), (4, false), (5, false), (6, false), (7, false), (8, false), (9, false)] (cnd 26 (En 27 k0 (B4 P N2)) (En 27 k1 (B3 P N2))) k1 (B5 P N2) := fun _ _ _ _ _  => by kernel_rfl
noncomputable def o6 := ob Try.f46 [.r,.r,.l,.r,.l,.l,.l,.l]
def B6 (P : PT) (N2 : NTy k1 Pr) (x0 x1 : Value) (x5 : Int) (H : AHeap) : Prop :=
  lenK x0 (fun n1 => pif (decide ((x5 : Int) < (n1 : Int))) (B5 P N2 x0 x1 x5 H) (B1 P H))
theorem q6 (P : PT) (N2 : NTy k1 Pr) : QB Try.prog T0 27 o6 (cnd 14 (En 27 k1 (B5 P N2)) (En 27 k0 (B1 P))) k1 (B6 P N2) := fun _ _ _ _ _  => by kernel_rfl
def L2 (P : PT) (x0 x1 : Value) (x5 : Int) (H : AHeap) : Prop :=
  ∃ (I : NTy k1 Pr) (μ : NTy k1 (AHeap → Nat)), I x0 x1 x5 H ∧ ∀ y0 y1 y5 G, I y0 y1 y5 G → B6 P (fun z0 z1 z5 G' => I z0 z1 z5 G' ∧ μ z0 z1 z5 G' < μ y0 y1 y5 G) y0 y1 y5 G
theorem l2 (P : PT) : LQ k1 (L2 P) (B6 P) := fun ⟨_,_,_,_⟩ _ ⟨I, μ, h0, hI⟩ => ⟨apT _ I, apT _ μ, h0, fun ⟨_,_,_,_⟩ _ h => hI _ _ _ _  h⟩
abbrev k2 : Sk := [(0,.v),(1,.v)]
noncomputable def o7 := ob Try.f46 [.r,.r,.l,.l]
def B7 (P : PT) (x0 x1 : Value) (H : AHeap) : Prop :=
  L2 P x0 x1 0 H
theorem q7 (P : PT) : QB Try.prog T0 27 o7 (En 27 k1 (L2 P)) k2 (B7 P) := fun _ _ _ _  => by kernel_rfl
noncomputable def o8 := ob Try.f46 [.r,.l,.r,.l,.l]
def B8 (P : PT) (H : AHeap) : Prop :=
  P (Value.bool false) H
theorem q8 (P : PT) : QB Try.prog T0 27 o8 (ret P) k0 (B8 P) := fun _ _  => by kernel_rfl
noncomputable def o9 := ob Try.f46 [.r,.l,.l]
def B9 (P : PT) (x0 x1 : Value) (H : AHeap) : Prop :=
  lenK x0 (fun n1 => lenK x1 (fun n2 => pif (((n1 : Int) : Int) != (n2 : Int)) (B8 P H) (B7 P x0 x1 H)))
theorem q9 (P : PT) : QB Try.prog T0 27 o9 (cnd 10 (En 27 k0 (B8 P)) (En 27 k2 (B7 P))) k2 (B9 P) := fun _ _ _ _  => by kernel_rfl
noncomputable def o10 := ob Try.f46 [.l]
def B10 (P : PT) (x0 x1 : Value) (H : AHeap) : Prop :=
  B9 P x0 x1 H
theorem q10 (P : PT) : QB Try.prog T0 27 o10 (En 27 k2 (B9 P)) k2 (B10 P) := fun _ _ _ _  => by kernel_rfl
noncomputable def code : Code := (.seq (.region 0 ⟨o10⟩ false) (.seq (.seq (.region 1 ⟨o9⟩ false) (.cond (.tmp 10) (.seq (.region 2 ⟨o8⟩ false) .ret) .skip)) (.seq (.seq (.region 3 ⟨o7⟩ false) (.block 0 (.loop (.seq (.seq (.region 4 ⟨o6⟩ false) (.cond (.tmp 14) .skip (.exit 0))) (.seq (.block 1 (.seq (.region 6 ⟨o5⟩ true) (.cond (.tmp 26) (.seq (.region 7 ⟨o4⟩ false) .ret) .skip))) (.region 5 ⟨o3⟩ false)))))) (.seq (.region 8 ⟨o1⟩ false) .ret))))
theorem body : Try.f46.body = some code := by kernel_rfl
theorem main (P : PT) : ∀ env H, (En 27 k2 (B10 P)) env H → AW Try.prog T0 code env H (mkQ (ret P) (fun _ _ _ => False) (ret P)) :=
  (r_seq (rB T0_ok (q10 P)) (r_seq (r_seq (rB T0_ok (q9 P)) (r_cond rfl (r_seq (rB T0_ok (q8 P)) r_ret) r_skip)) (r_seq (r_seq (rB T0_ok (q7 P)) (r_block (rL (l2 P) (fun N2 => (r_seq (r_seq (rB T0_ok (q6 P N2)) (r_cond rfl r_skip (r_exit (fun _ _ h => h)))) (r_seq (r_block (r_seq (rD T0_ok mixed [(0, false), (1, false), (2, false), (3, false), (4, false), (5, false), (6, false), (7, false), (8, false), (9, false)] (by kernel_rfl) (q5 P N2)) (r_cond rfl (r_seq (rB T0_ok (q4 P N2)) r_ret) r_skip))) (rB T0_ok (q3 P N2)))))))) (r_seq (rB T0_ok (q1 P)) r_ret))))
theorem ac (P : PT) (x0 x1 : Value) (H : AHeap) (h : B10 P x0 x1 H) : AC Try.prog T0 46 [x0, x1] H P :=
  r_fn T0_ok (c := code) (n := 27) Try.func46 body (by kernel_rfl) (main P) (En_mk (x0, x1, ()) (by kernel_rfl) ⟨by kernel_rfl, by kernel_rfl, trivial⟩ h)

end F46
-- loop.example/g01329/spec.l11New
namespace F59
noncomputable def ret (P : PT) : EP := retE T0 9 Try.f59 P
abbrev k0 : Sk := [(0,.x),(1,.x)]
noncomputable def o1 := ob Try.f59 [.r,.r,.l]
def B1 (P : PT) (x0 x1 : Nat) (H : AHeap) : Prop :=
  ldI .i64 H x1 0 (fun v1 => ld1 H x1 1 (fun v2 => AC Try.prog T0 97 [(Value.agg ⟨[(Value.int .i64 v1), v2]⟩)] H (fun v3 H4 => agg4 v3 (fun v5 v6 v7 v8 => asI .i64 v5 (fun v9 => stK H4 x0 0 [(Value.int .i64 v9), v6, v7, v8] (fun H13 => ldI .i64 H13 x0 0 (fun v14 => ld1 H13 x0 1 (fun v15 => ld1 H13 x0 2 (fun v16 => ld1 H13 x0 3 (fun v17 => P (Value.agg ⟨[(Value.int .i64 v14), v15, v16, v17]⟩) H13))))))))))
theorem q1 (P : PT) : QB Try.prog T0 9 o1 (ret P) k0 (B1 P) := fun _ _ _ _  => by kernel_rfl
abbrev k1 : Sk := [(0,.x)]
noncomputable def o2 := ob Try.f59 [.r,.l]
def B2 (P : PT) (x0 : Nat) (H : AHeap) : Prop :=
  AC Try.prog T0 96 [(Value.string (⟨#[107, 52]⟩))] H (fun v1 H2 => tup2 v1 (fun v3 v4 => agg2 v3 (fun v5 v6 => asI .i64 v5 (fun v7 => asB v4 (fun v9 => newK H2 [(Value.int .i64 0), (Value.slice none 0 0)] 31 (fun b10 H11 => stK H11 b10 0 [(Value.int .i64 v7), v6] (fun H12 => B1 P x0 b10 H12)))))))
theorem q2 (P : PT) : QB Try.prog T0 9 o2 (En 9 k0 (B1 P)) k1 (B2 P) := fun _ _ _  => by kernel_rfl
abbrev k2 : Sk := []
noncomputable def o3 := ob Try.f59 [.l]
def B3 (P : PT) (H : AHeap) : Prop :=
  newK H [(Value.int .i64 0), (Value.slice none 0 0), (Value.slice none 0 0), (Value.slice none 0 0)] 45 (fun b1 H2 => B2 P b1 H2)
theorem q3 (P : PT) : QB Try.prog T0 9 o3 (En 9 k1 (B2 P)) k2 (B3 P) := fun _ _  => by kernel_rfl
noncomputable def code : Code := (.seq (.region 0 ⟨o3⟩ false) (.seq (.region 1 ⟨o2⟩ false) (.seq (.region 2 ⟨o1⟩ false) .ret)))
theorem body : Try.f59.body = some code := by kernel_rfl
theorem main (P : PT) : ∀ env H, (En 9 k2 (B3 P)) env H → AW Try.prog T0 code env H (mkQ (ret P) (fun _ _ _ => False) (ret P)) :=
  (r_seq (rB T0_ok (q3 P)) (r_seq (rB T0_ok (q2 P)) (r_seq (rB T0_ok (q1 P)) r_ret)))
theorem ac (P : PT) (H : AHeap) (h : B3 P H) : AC Try.prog T0 59 [] H P :=
  r_fn T0_ok (c := code) (n := 9) Try.func59 body (by kernel_rfl) (main P) (En_mk (()) (by kernel_rfl) trivial h)

end F59
-- loop.example/g01329/impl.NamedGraph
namespace F60
noncomputable def ret (P : PT) : EP := retE T0 64 Try.f60 P
abbrev k0 : Sk := [(2,.x),(4,.v)]
noncomputable def o1 := ob Try.f60 [.r,.r,.r,.l]
def B1 (P : PT) (x2 : Nat) (x4 : Value) (H : AHeap) : Prop :=
  AC Try.prog T0 44 [x4] H (fun v1 H2 => asI .i64 v1 (fun v3 => AC Try.prog T0 106 [(Value.int .i64 (IntKind.i64.wrap (Int.tdiv (IntKind.i64.wrap (v3 * 2)) 3))), x4] H2 (fun v4 H5 => agg2 v4 (fun v6 v7 => asI .i64 v6 (fun v8 => stK H5 x2 0 [(Value.int .i64 v8), v7] (fun H10 => ldI .i64 H10 x2 0 (fun v11 => ld1 H10 x2 1 (fun v12 => P (Value.tuple ⟨[(Value.agg ⟨[(Value.int .i64 v11), v12]⟩), (Value.int .i64 0)]⟩) H10))))))))
theorem q1 (P : PT) : QB Try.prog T0 64 o1 (ret P) k0 (B1 P) := fun _ _ _ _  => by kernel_rfl
abbrev k1 : Sk := [(2,.x)]
noncomputable def o2 := ob Try.f60 [.r,.r,.l,.r,.l,.r,.l]
def B2 (P : PT) (x2 : Nat) (H : AHeap) : Prop :=
  newK H [(Value.int .i64 0), (Value.int .i64 1), (Value.int .i64 0), (Value.int .i64 1), (Value.int .i64 0), (Value.int .i64 1)] 67 (fun b1 H2 => B1 P x2 (Value.slice (some ⟨b1, 0, none⟩) 3 (3 + 1)) H2)
theorem q2 (P : PT) : QB Try.prog T0 64 o2 (En 64 k0 (B1 P)) k1 (B2 P) := fun _ _ _  => by kernel_rfl
noncomputable def o3 := ob Try.f60 [.r,.r,.l,.r,.l,.r,.r,.r,.l]
def B3 (P : PT) (x2 : Nat) (H : AHeap) : Prop :=
  newK H [(Value.int .i64 1), (Value.int .i64 2), (Value.int .i64 3)] 2 (fun b1 H2 => AC Try.prog T0 99 [(Value.int .i64 0), (Value.slice (some ⟨b1, 0, none⟩) 3 (3 + 1))] H2 (fun v3 H4 => newK H4 [(Value.int .i64 1), (Value.int .i64 2), (Value.int .i64 3)] 2 (fun b6 H7 => AC Try.prog T0 100 [(Value.slice (some ⟨b6, 0, none⟩) 3 (3 + 1))] H7 (fun v8 H9 => pif (Value.oneCell' v3) (pif (Value.oneCell' v8) (newK H9 [v3, v8] 29 (fun b11 H12 => AC Try.prog T0 98 [(Value.slice (some ⟨b11, 0, none⟩) 2 (2 + 1))] H12 (fun v13 H14 => B1 P x2 v13 H14))) False) False))))
theorem q3 (P : PT) : QB Try.prog T0 64 o3 (En 64 k0 (B1 P)) k1 (B3 P) := fun _ _ _  => by kernel_rfl
noncomputable def o4 := ob Try.f60 [.r,.r,.l,.r,.l,.r,.r,.r,.r,.r,.l]
def B4 (P : PT) (x2 : Nat) (H : AHeap) : Prop :=
  newK H [(Value.int .i64 3), (Value.int .i64 4), (Value.int .i64 5)] 2 (fun b1 H2 => AC Try.prog T0 99 [(Value.int .i64 0), (Value.slice (some ⟨b1, 0, none⟩) 3 (3 + 1))] H2 (fun v3 H4 => newK H4 [(Value.int .i64 3), (Value.int .i64 4), (Value.int .i64 5)] 2 (fun b6 H7 => AC Try.prog T0 99 [(Value.int .i64 1), (Value.slice (some ⟨b6, 0, none⟩) 3 (3 + 1))] H7 (fun v8 H9 => newK H9 [(Value.int .i64 3), (Value.int .i64 4), (Value.int .i64 5)] 2 (fun b11 H12 => AC Try.prog T0 99 [(Value.int .i64 2), (Value.slice (some ⟨b11, 0, none⟩) 3 (3 + 1))] H12 (fun v13 H14 => pif (Value.oneCell' v3) (pif (Value.oneCell' v8) (pif (Value.oneCell' v13) (newK H14 [v3, v8, v13] 29 (fun b16 H17 => AC Try.prog T0 98 [(Value.slice (some ⟨b16, 0, none⟩) 3 (3 + 1))] H17 (fun v18 H19 => B1 P x2 v18 H19))) False) False) False))))))
theorem q4 (P : PT) : QB Try.prog T0 64 o4 (En 64 k0 (B1 P)) k1 (B4 P) := fun _ _ _  => by kernel_rfl
noncomputable def o5 := ob Try.f60 [.r,.r,.l,.r,.l,.r,.r,.r,.r,.r,.r,.r,.l]
def B5 (P : PT) (x2 : Nat) (H : AHeap) : Prop :=
  newK H [(Value.int .i64 0), (Value.int .i64 1), (Value.int .i64 2)] 2 (fun b1 H2 => AC Try.prog T0 100 [(Value.slice (some ⟨b1, 0, none⟩) 3 (3 + 1))] H2 (fun v3 H4 => newK H4 [(Value.int .i64 3), (Value.int .i64 4), (Value.int .i64 5)] 2 (fun b6 H7 => AC Try.prog T0 100 [(Value.slice (some ⟨b6, 0, none⟩) 3 (3 + 1))] H7 (fun v8 H9 => newK H9 [(Value.int .i64 0), (Value.int .i64 3), (Value.int .i64 1), (Value.int .i64 4), (Value.int .i64 2), (Value.int .i64 5)] 67 (fun b11 H12 => pif (Value.oneCell' v3) (pif (Value.oneCell' v8) (newK H12 [v3, v8, (Value.slice (some ⟨b11, 0, none⟩) 3 (3 + 1))] 29 (fun b13 H14 => AC Try.prog T0 98 [(Value.slice (some ⟨b13, 0, none⟩) 3 (3 + 1))] H14 (fun v15 H16 => B1 P x2 v15 H16))) False) False)))))
theorem q5 (P : PT) : QB Try.prog T0 64 o5 (En 64 k0 (B1 P)) k1 (B5 P) := fun _ _ _  => by kernel_rfl
noncomputable def o6 := ob Try.f60 [.r,.r,.l,.r,.l,.r,.r,.r,.r,.r,.r,.r,.r,.r,.l]
def B6 (P : PT) (x2 : Nat) (H : AHeap) : Prop :=
  AC Try.prog T0 101 [] H (fun v1 H2 => B1 P x2 v1 H2)
theorem q6 (P : PT) : QB Try.prog T0 64 o6 (En 64 k0 (B1 P)) k1 (B6 P) := fun _ _ _  => by kernel_rfl
noncomputable def o7 := ob Try.f60 [.r,.r,.l,.r,.l,.r,.r,.r,.r,.r,.r,.r,.r,.r,.r,.r,.l]
def B7 (P : PT) (x2 : Nat) (H : AHeap) : Prop :=
  AC Try.prog T0 102 [] H (fun v1 H2 => B1 P x2 v1 H2)
theorem q7 (P : PT) : QB Try.prog T0 64 o7 (En 64 k0 (B1 P)) k1 (B7 P) := fun _ _ _  => by kernel_rfl
noncomputable def o8 := ob Try.f60 [.r,.r,.l,.r,.l,.r,.r,.r,.r,.r,.r,.r,.r,.r,.r,.r,.r,.r,.l]
def B8 (P : PT) (x2 : Nat) (H : AHeap) : Prop :=
  AC Try.prog T0 103 [] H (fun v1 H2 => B1 P x2 v1 H2)
theorem q8 (P : PT) : QB Try.prog T0 64 o8 (En 64 k0 (B1 P)) k1 (B8 P) := fun _ _ _  => by kernel_rfl
noncomputable def o9 := ob Try.f60 [.r,.r,.l,.r,.l,.r,.r,.r,.r,.r,.r,.r,.r,.r,.r,.r,.r,.r,.r,.r,.l]
def B9 (P : PT) (x2 : Nat) (H : AHeap) : Prop :=
  AC Try.prog T0 104 [] H (fun v1 H2 => B1 P x2 v1 H2)
theorem q9 (P : PT) : QB Try.prog T0 64 o9 (En 64 k0 (B1 P)) k1 (B9 P) := fun _ _ _  => by kernel_rfl
noncomputable def o10 := ob Try.f60 [.r,.r,.l,.r,.l,.r,.r,.r,.r,.r,.r,.r,.r,.r,.r,.r,.r,.r,.r,.r,.r,.r,.l]
def B10 (P : PT) (x2 : Nat) (H : AHeap) : Prop :=
  AC Try.prog T0 105 [] H (fun v1 H2 => B1 P x2 v1 H2)
theorem q10 (P : PT) : QB Try.prog T0 64 o10 (En 64 k0 (B1 P)) k1 (B10 P) := fun _ _ _  => by kernel_rfl
noncomputable def o11 := ob Try.f60 [.r,.r,.l,.r,.l,.r,.r,.r,.r,.r,.r,.r,.r,.r,.r,.r,.r,.r,.r,.r,.r,.r,.r,.l]
def B11 (P : PT) (x2 : Nat) (H : AHeap) : Prop :=
  stK H x2 0 [(Value.int .i64 0), (Value.slice none 0 0)] (fun H1 => ldI .i64 H1 x2 0 (fun v2 => ld1 H1 x2 1 (fun v3 => P (Value.tuple ⟨[(Value.agg ⟨[(Value.int .i64 v2), v3]⟩), (Value.int .i64 4)]⟩) H1)))
theorem q11 (P : PT) : QB Try.prog T0 64 o11 (ret P) k1 (B11 P) := fun _ _ _  => by kernel_rfl
abbrev k2 : Sk := [(2,.x),(5,.s)]
noncomputable def o12 := ob Try.f60 [.r,.r,.l,.r,.l,.r,.r,.r,.r,.r,.r,.r,.r,.r,.r,.r,.r,.r,.r,.r,.r,.l]
def B12 (P : PT) (x2 : Nat) (x5 : ByteArray) (H : AHeap) : Prop :=
  pif (ByteArray.toList x5 == ByteArray.toList (⟨#[98, 114, 105, 100, 103, 101]⟩)) (B10 P x2 H) (B11 P x2 H)
theorem q12 (P : PT) : QB Try.prog T0 64 o12 (cnd 55 (En 64 k1 (B10 P)) (En 64 k1 (B11 P))) k2 (B12 P) := fun _ _ _ _  => by kernel_rfl
noncomputable def o13 := ob Try.f60 [.r,.r,.l,.r,.l,.r,.r,.r,.r,.r,.r,.r,.r,.r,.r,.r,.r,.r,.r,.l]
def B13 (P : PT) (x2 : Nat) (x5 : ByteArray) (H : AHeap) : Prop :=
  pif (ByteArray.toList x5 == ByteArray.toList (⟨#[102, 108, 111, 119, 101, 114, 53]⟩)) (B9 P x2 H) (B12 P x2 x5 H)
theorem q13 (P : PT) : QB Try.prog T0 64 o13 (cnd 52 (En 64 k1 (B9 P)) (En 64 k2 (B12 P))) k2 (B13 P) := fun _ _ _ _  => by kernel_rfl
noncomputable def o14 := ob Try.f60 [.r,.r,.l,.r,.l,.r,.r,.r,.r,.r,.r,.r,.r,.r,.r,.r,.r,.l]
def B14 (P : PT) (x2 : Nat) (x5 : ByteArray) (H : AHeap) : Prop :=
  pif (ByteArray.toList x5 == ByteArray.toList (⟨#[116, 105, 101, 116, 122, 101]⟩)) (B8 P x2 H) (B13 P x2 x5 H)
theorem q14 (P : PT) : QB Try.prog T0 64 o14 (cnd 49 (En 64 k1 (B8 P)) (En 64 k2 (B13 P))) k2 (B14 P) := fun _ _ _ _  => by kernel_rfl
noncomputable def o15 := ob Try.f60 [.r,.r,.l,.r,.l,.r,.r,.r,.r,.r,.r,.r,.r,.r,.r,.l]
def B15 (P : PT) (x2 : Nat) (x5 : ByteArray) (H : AHeap) : Prop :=
  pif (ByteArray.toList x5 == ByteArray.toList (⟨#[112, 101, 116, 101, 114, 115, 101, 110]⟩)) (B7 P x2 H) (B14 P x2 x5 H)
theorem q15 (P : PT) : QB Try.prog T0 64 o15 (cnd 46 (En 64 k1 (B7 P)) (En 64 k2 (B14 P))) k2 (B15 P) := fun _ _ _ _  => by kernel_rfl
noncomputable def o16 := ob Try.f60 [.r,.r,.l,.r,.l,.r,.r,.r,.r,.r,.r,.r,.r,.l]
def B16 (P : PT) (x2 : Nat) (x5 : ByteArray) (H : AHeap) : Prop :=
  pif (ByteArray.toList x5 == ByteArray.toList (⟨#[99, 117, 98, 101]⟩)) (B6 P x2 H) (B15 P x2 x5 H)
theorem q16 (P : PT) : QB Try.prog T0 64 o16 (cnd 43 (En 64 k1 (B6 P)) (En 64 k2 (B15 P))) k2 (B16 P) := fun _ _ _ _  => by kernel_rfl
noncomputable def o17 := ob Try.f60 [.r,.r,.l,.r,.l,.r,.r,.r,.r,.r,.r,.l]
def B17 (P : PT) (x2 : Nat) (x5 : ByteArray) (H : AHeap) : Prop :=
  pif (ByteArray.toList x5 == ByteArray.toList (⟨#[112, 114, 105, 115, 109]⟩)) (B5 P x2 H) (B16 P x2 x5 H)
theorem q17 (P : PT) : QB Try.prog T0 64 o17 (cnd 31 (En 64 k1 (B5 P)) (En 64 k2 (B16 P))) k2 (B17 P) := fun _ _ _ _  => by kernel_rfl
noncomputable def o18 := ob Try.f60 [.r,.r,.l,.r,.l,.r,.r,.r,.r,.l]
def B18 (P : PT) (x2 : Nat) (x5 : ByteArray) (H : AHeap) : Prop :=
  pif (ByteArray.toList x5 == ByteArray.toList (⟨#[107, 51, 51]⟩)) (B4 P x2 H) (B17 P x2 x5 H)
theorem q18 (P : PT) : QB Try.prog T0 64 o18 (cnd 21 (En 64 k1 (B4 P)) (En 64 k2 (B17 P))) k2 (B18 P) := fun _ _ _ _  => by kernel_rfl
noncomputable def o19 := ob Try.f60 [.r,.r,.l,.r,.l,.r,.r,.l]
def B19 (P : PT) (x2 : Nat) (x5 : ByteArray) (H : AHeap) : Prop :=
  pif (ByteArray.toList x5 == ByteArray.toList (⟨#[107, 52]⟩)) (B3 P x2 H) (B18 P x2 x5 H)
theorem q19 (P : PT) : QB Try.prog T0 64 o19 (cnd 13 (En 64 k1 (B3 P)) (En 64 k2 (B18 P))) k2 (B19 P) := fun _ _ _ _  => by kernel_rfl
noncomputable def o20 := ob Try.f60 [.r,.r,.l,.r,.l,.l]
def B20 (P : PT) (x2 : Nat) (x5 : ByteArray) (H : AHeap) : Prop :=
  pif (ByteArray.toList x5 == ByteArray.toList (⟨#[116, 104, 101, 116, 97]⟩)) (B2 P x2 H) (B19 P x2 x5 H)
theorem q20 (P : PT) : QB Try.prog T0 64 o20 (cnd 7 (En 64 k1 (B2 P)) (En 64 k2 (B19 P))) k2 (B20 P) := fun _ _ _ _  => by kernel_rfl
abbrev k3 : Sk := [(0,.s),(2,.x)]
noncomputable def o21 := ob Try.f60 [.r,.r,.l,.l]
def B21 (P : PT) (x0 : ByteArray) (x2 : Nat) (H : AHeap) : Prop :=
  B20 P x2 x0 H
theorem q21 (P : PT) : QB Try.prog T0 64 o21 (En 64 k2 (B20 P)) k3 (B21 P) := fun _ _ _ _  => by kernel_rfl
noncomputable def o22 := ob Try.f60 [.r,.l]
def B22 (P : PT) (x0 : ByteArray) (x2 : Nat) (H : AHeap) : Prop :=
  B21 P x0 x2 H
theorem q22 (P : PT) : QB Try.prog T0 64 o22 (En 64 k3 (B21 P)) k3 (B22 P) := fun _ _ _ _  => by kernel_rfl
abbrev k4 : Sk := [(0,.s)]
noncomputable def o23 := ob Try.f60 [.l]
def B23 (P : PT) (x0 : ByteArray) (H : AHeap) : Prop :=
  newK H [(Value.int .i64 0), (Value.slice none 0 0)] 31 (fun b1 H2 => B22 P x0 b1 H2)
theorem q23 (P : PT) : QB Try.prog T0 64 o23 (En 64 k3 (B22 P)) k4 (B23 P) := fun _ _ _  => by kernel_rfl
noncomputable def code : Code := (.seq (.region 0 ⟨o23⟩ false) (.seq (.region 1 ⟨o22⟩ false) (.seq (.seq (.region 2 ⟨o21⟩ false) (.block 0 (.seq (.region 4 ⟨o20⟩ false) (.cond (.tmp 7) (.region 5 ⟨o2⟩ false) (.seq (.region 6 ⟨o19⟩ false) (.cond (.tmp 13) (.region 7 ⟨o3⟩ false) (.seq (.region 8 ⟨o18⟩ false) (.cond (.tmp 21) (.region 9 ⟨o4⟩ false) (.seq (.region 10 ⟨o17⟩ false) (.cond (.tmp 31) (.region 11 ⟨o5⟩ false) (.seq (.region 12 ⟨o16⟩ false) (.cond (.tmp 43) (.region 13 ⟨o6⟩ false) (.seq (.region 14 ⟨o15⟩ false) (.cond (.tmp 46) (.region 15 ⟨o7⟩ false) (.seq (.region 16 ⟨o14⟩ false) (.cond (.tmp 49) (.region 17 ⟨o8⟩ false) (.seq (.region 18 ⟨o13⟩ false) (.cond (.tmp 52) (.region 19 ⟨o9⟩ false) (.seq (.region 20 ⟨o12⟩ false) (.cond (.tmp 55) (.region 21 ⟨o10⟩ false) (.seq (.region 3 ⟨o11⟩ false) .ret))))))))))))))))))))) (.seq (.region 22 ⟨o1⟩ false) .ret))))
theorem body : Try.f60.body = some code := by kernel_rfl
theorem main (P : PT) : ∀ env H, (En 64 k4 (B23 P)) env H → AW Try.prog T0 code env H (mkQ (ret P) (fun _ _ _ => False) (ret P)) :=
  (r_seq (rB T0_ok (q23 P)) (r_seq (rB T0_ok (q22 P)) (r_seq (r_seq (rB T0_ok (q21 P)) (r_block (r_seq (rB T0_ok (q20 P)) (r_cond rfl (rB T0_ok (q2 P)) (r_seq (rB T0_ok (q19 P)) (r_cond rfl (rB T0_ok (q3 P)) (r_seq (rB T0_ok (q18 P)) (r_cond rfl (rB T0_ok (q4 P)) (r_seq (rB T0_ok (q17 P)) (r_cond rfl (rB T0_ok (q5 P)) (r_seq (rB T0_ok (q16 P)) (r_cond rfl (rB T0_ok (q6 P)) (r_seq (rB T0_ok (q15 P)) (r_cond rfl (rB T0_ok (q7 P)) (r_seq (rB T0_ok (q14 P)) (r_cond rfl (rB T0_ok (q8 P)) (r_seq (rB T0_ok (q13 P)) (r_cond rfl (rB T0_ok (q9 P)) (r_seq (rB T0_ok (q12 P)) (r_cond rfl (rB T0_ok (q10 P)) (r_seq (rB T0_ok (q11 P)) r_ret))))))))))))))))))))) (r_seq (rB T0_ok (q1 P)) r_ret))))
theorem ac (P : PT) (x0 : ByteArray) (H : AHeap) (h : B23 P x0 H) : AC Try.prog T0 60 [(Value.string x0)] H P :=
  r_fn T0_ok (c := code) (n := 64) Try.func60 body (by kernel_rfl) (main P) (En_mk (x0, ()) (by kernel_rfl) ⟨by kernel_rfl, trivial⟩ h)

end F60
-- loop.example/g01329/laws.heldGraph
namespace F61
noncomputable def ret (P : PT) : EP := retE T0 12 Try.f61 P
abbrev k0 : Sk := [(1,.i .i64)]
noncomputable def o1 := ob Try.f61 [.r,.r,.r,.l]
def B1 (P : PT) (x1 : Int) (H : AHeap) : Prop :=
  P (Value.int .i64 x1) H
theorem q1 (P : PT) : QB Try.prog T0 12 o1 (ret P) k0 (B1 P) := fun _ _ _  => by kernel_rfl
abbrev k1 : Sk := []
noncomputable def o2 := ob Try.f61 [.r,.r,.l,.r,.l,.l]
def B2 (P : PT) (H : AHeap) : Prop :=
  P (Value.int .i64 (-1)) H
theorem q2 (P : PT) : QB Try.prog T0 12 o2 (ret P) k1 (B2 P) := fun _ _  => by kernel_rfl
noncomputable def o3 := ob Try.f61 [.r,.r,.l,.l]
def B3 (P : PT) (x1 : Int) (H : AHeap) : Prop :=
  pif (decide ((x1 : Int) < 0)) (B2 P H) (B1 P x1 H)
theorem q3 (P : PT) : QB Try.prog T0 12 o3 (cnd 10 (En 12 k1 (B2 P)) (En 12 k0 (B1 P))) k0 (B3 P) := fun _ _ _  => by kernel_rfl
abbrev k2 : Sk := [(1,.i .i64),(2,.x)]
noncomputable def o4 := ob Try.f61 [.r,.l]
def B4 (P : PT) (x1 : Int) (x2 : Nat) (H : AHeap) : Prop :=
  ld1 H x2 1 (fun v1 => AC Try.prog T0 107 [v1, (Value.int .i64 x1)] H (fun v2 H3 => asI .i64 v2 (fun v4 => B3 P v4 H3)))
theorem q4 (P : PT) : QB Try.prog T0 12 o4 (En 12 k0 (B3 P)) k2 (B4 P) := fun _ _ _ _  => by kernel_rfl
abbrev k3 : Sk := [(0,.g [.i,.v]),(1,.i .i64)]
noncomputable def o5 := ob Try.f61 [.l]
def B5 (P : PT) (x0a : Int) (x0b : Value) (x1 : Int) (H : AHeap) : Prop :=
  newK H [(Value.int .i64 x0a), x0b] 31 (fun b1 H2 => B4 P x1 b1 H2)
theorem q5 (P : PT) : QB Try.prog T0 12 o5 (En 12 k2 (B4 P)) k3 (B5 P) := fun _ _ _ _ _  => by kernel_rfl
noncomputable def code : Code := (.seq (.region 0 ⟨o5⟩ false) (.seq (.region 1 ⟨o4⟩ false) (.seq (.seq (.region 2 ⟨o3⟩ false) (.cond (.tmp 10) (.seq (.region 3 ⟨o2⟩ false) .ret) .skip)) (.seq (.region 4 ⟨o1⟩ false) .ret))))
theorem body : Try.f61.body = some code := by kernel_rfl
theorem main (P : PT) : ∀ env H, (En 12 k3 (B5 P)) env H → AW Try.prog T0 code env H (mkQ (ret P) (fun _ _ _ => False) (ret P)) :=
  (r_seq (rB T0_ok (q5 P)) (r_seq (rB T0_ok (q4 P)) (r_seq (r_seq (rB T0_ok (q3 P)) (r_cond rfl (r_seq (rB T0_ok (q2 P)) r_ret) r_skip)) (r_seq (rB T0_ok (q1 P)) r_ret))))
theorem ac (P : PT) (x0a : Int) (x0b : Value) (x1 : Int) (H : AHeap) (h : B5 P x0a x0b x1 H) : AC Try.prog T0 61 [(Value.agg ⟨[(Value.int .i64 x0a), x0b]⟩), (Value.int .i64 x1)] H P :=
  r_fn T0_ok (c := code) (n := 12) Try.func61 body (by kernel_rfl) (main P) (En_mk (x0a, x0b, x1, ()) (by kernel_rfl) ⟨by kernel_rfl, by kernel_rfl, trivial⟩ h)

end F61
-- loop.example/g01329/laws.markEdgeS
namespace F68
noncomputable def ret (P : PT) : EP := retE T0 26 Try.f68 P
abbrev k0 : Sk := [(1,.i .i64)]
noncomputable def o1 := ob Try.f68 [.r,.r,.l]
def B1 (P : PT) (x1 : Int) (H : AHeap) : Prop :=
  P (Value.int .i64 x1) H
theorem q1 (P : PT) : QB Try.prog T0 26 o1 (ret P) k0 (B1 P) := fun _ _ _  => by kernel_rfl
abbrev k1 : Sk := [(0,.v),(1,.i .i64),(5,.i .i64)]
noncomputable def o3 := ob Try.f68 [.r,.l,.r,.l,.l,.r,.r]
def B3 (P : PT) (N2 : NTy k1 Pr) (x0 : Value) (x1 x5 : Int) (H : AHeap) : Prop :=
  N2 x0 x1 (IntKind.i64.wrap (x5 + 1)) H
theorem q3 (P : PT) (N2 : NTy k1 Pr) : QB Try.prog T0 26 o3 (En 26 k1 N2) k1 (B3 P N2) := fun _ _ _ _ _  => by kernel_rfl
abbrev k2 : Sk := [(0,.v),(1,.i .i64),(5,.i .i64),(6,.i .i64)]
noncomputable def o5 := ob Try.f68 [.r,.l,.r,.l,.l,.r,.l,.l,.r,.l,.l,.r,.r]
def B5 (P : PT) (N2 : NTy k1 Pr) (N4 : NTy k2 Pr) (x0 : Value) (x1 x5 x6 : Int) (H : AHeap) : Prop :=
  N4 x0 x1 x5 (IntKind.i64.wrap (x6 + 1)) H
theorem q5 (P : PT) (N2 : NTy k1 Pr) (N4 : NTy k2 Pr) : QB Try.prog T0 26 o5 (En 26 k2 N4) k2 (B5 P N2 N4) := fun _ _ _ _ _ _  => by kernel_rfl
noncomputable def o6 := ob Try.f68 [.r,.l,.r,.l,.l,.r,.l,.l,.r,.l,.l,.r,.l,.l,.r]
def B6 (P : PT) (N2 : NTy k1 Pr) (N4 : NTy k2 Pr) (x0 : Value) (x1 x5 x6 : Int) (H : AHeap) : Prop :=
  B5 P N2 N4 x0 (IntKind.i64.wrap (x1 + 1)) x5 x6 H
theorem q6 (P : PT) (N2 : NTy k1 Pr) (N4 : NTy k2 Pr) : QB Try.prog T0 26 o6 (En 26 k2 (B5 P N2 N4)) k2 (B6 P N2 N4) := fun _ _ _ _ _ _  => by kernel_rfl
noncomputable def o7 := ob Try.f68 [.r,.l,.r,.l,.l,.r,.l,.l,.r,.l,.l,.r,.l,.l,.l]
def B7 (P : PT) (N2 : NTy k1 Pr) (N4 : NTy k2 Pr) (x0 : Value) (x1 x5 x6 : Int) (H : AHeap) : Prop :=
  idxK x0 x5 2 (fun b1 o2 => bndK x6 2 (stK H b1 (o2 + Int.toNat x6 * 1) [(Value.int .i64 x1)] (fun H3 => B6 P N2 N4 x0 x1 x5 x6 H3)))
theorem q7 (P : PT) (N2 : NTy k1 Pr) (N4 : NTy k2 Pr) : QB Try.prog T0 26 o7 (En 26 k2 (B6 P N2 N4)) k2 (B7 P N2 N4) := fun _ _ _ _ _ _  => by kernel_rfl
noncomputable def o8 := ob Try.f68 [.r,.l,.r,.l,.l,.r,.l,.l,.r,.l,.l,.l,.l]
def B8 (P : PT) (N2 : NTy k1 Pr) (N4 : NTy k2 Pr) (x0 : Value) (x1 x5 x6 : Int) (H : AHeap) : Prop :=
  pif (decide ((x6 : Int) < 2)) (B7 P N2 N4 x0 x1 x5 x6 H) (B3 P N2 x0 x1 x5 H)
theorem q8 (P : PT) (N2 : NTy k1 Pr) (N4 : NTy k2 Pr) : QB Try.prog T0 26 o8 (cnd 14 (En 26 k2 (B7 P N2 N4)) (En 26 k1 (B3 P N2))) k2 (B8 P N2 N4) := fun _ _ _ _ _ _  => by kernel_rfl
def L4 (P : PT) (N2 : NTy k1 Pr) (x0 : Value) (x1 x5 x6 : Int) (H : AHeap) : Prop :=
  ∃ (I : NTy k2 Pr) (μ : NTy k2 (AHeap → Nat)), I x0 x1 x5 x6 H ∧ ∀ y0 y1 y5 y6 G, I y0 y1 y5 y6 G → B8 P N2 (fun z0 z1 z5 z6 G' => I z0 z1 z5 z6 G' ∧ μ z0 z1 z5 z6 G' < μ y0 y1 y5 y6 G) y0 y1 y5 y6 G
theorem l4 (P : PT) (N2 : NTy k1 Pr) : LQ k2 (L4 P N2) (B8 P N2) := fun ⟨_,_,_,_,_⟩ _ ⟨I, μ, h0, hI⟩ => ⟨apT _ I, apT _ μ, h0, fun ⟨_,_,_,_,_⟩ _ h => hI _ _ _ _ _  h⟩
noncomputable def o9 := ob Try.f68 [.r,.l,.r,.l,.l,.r,.l,.l,.l]
def B9 (P : PT) (N2 : NTy k1 Pr) (x0 : Value) (x1 x5 : Int) (H : AHeap) : Prop :=
  L4 P N2 x0 x1 x5 0 H
theorem q9 (P : PT) (N2 : NTy k1 Pr) : QB Try.prog T0 26 o9 (En 26 k2 (L4 P N2)) k1 (B9 P N2) := fun _ _ _ _ _  => by kernel_rfl
noncomputable def o10 := ob Try.f68 [.r,.l,.r,.l,.l,.l,.l]
def B10 (P : PT) (N2 : NTy k1 Pr) (x0 : Value) (x1 x5 : Int) (H : AHeap) : Prop :=
  lenK x0 (fun n1 => pif (decide ((x5 : Int) < (n1 : Int))) (B9 P N2 x0 x1 x5 H) (B1 P x1 H))
theorem q10 (P : PT) (N2 : NTy k1 Pr) : QB Try.prog T0 26 o10 (cnd 10 (En 26 k1 (B9 P N2)) (En 26 k0 (B1 P))) k1 (B10 P N2) := fun _ _ _ _ _  => by kernel_rfl
def L2 (P : PT) (x0 : Value) (x1 x5 : Int) (H : AHeap) : Prop :=
  ∃ (I : NTy k1 Pr) (μ : NTy k1 (AHeap → Nat)), I x0 x1 x5 H ∧ ∀ y0 y1 y5 G, I y0 y1 y5 G → B10 P (fun z0 z1 z5 G' => I z0 z1 z5 G' ∧ μ z0 z1 z5 G' < μ y0 y1 y5 G) y0 y1 y5 G
theorem l2 (P : PT) : LQ k1 (L2 P) (B10 P) := fun ⟨_,_,_,_⟩ _ ⟨I, μ, h0, hI⟩ => ⟨apT _ I, apT _ μ, h0, fun ⟨_,_,_,_⟩ _ h => hI _ _ _ _  h⟩
abbrev k3 : Sk := [(0,.v),(1,.i .i64)]
noncomputable def o11 := ob Try.f68 [.r,.l,.l]
def B11 (P : PT) (x0 : Value) (x1 : Int) (H : AHeap) : Prop :=
  L2 P x0 x1 0 H
theorem q11 (P : PT) : QB Try.prog T0 26 o11 (En 26 k1 (L2 P)) k3 (B11 P) := fun _ _ _ _  => by kernel_rfl
noncomputable def o12 := ob Try.f68 [.l]
def B12 (P : PT) (x0 : Value) (x1 : Int) (H : AHeap) : Prop :=
  B11 P x0 x1 H
theorem q12 (P : PT) : QB Try.prog T0 26 o12 (En 26 k3 (B11 P)) k3 (B12 P) := fun _ _ _ _  => by kernel_rfl
noncomputable def code : Code := (.seq (.region 0 ⟨o12⟩ false) (.seq (.seq (.region 1 ⟨o11⟩ false) (.block 0 (.loop (.seq (.seq (.region 2 ⟨o10⟩ false) (.cond (.tmp 10) .skip (.exit 0))) (.seq (.block 1 (.seq (.region 4 ⟨o9⟩ false) (.block 2 (.loop (.seq (.seq (.region 5 ⟨o8⟩ false) (.cond (.tmp 14) .skip (.exit 2))) (.seq (.block 3 (.seq (.region 7 ⟨o7⟩ false) (.region 8 ⟨o6⟩ false))) (.region 6 ⟨o5⟩ false))))))) (.region 3 ⟨o3⟩ false)))))) (.seq (.region 9 ⟨o1⟩ false) .ret)))
theorem body : Try.f68.body = some code := by kernel_rfl
theorem main (P : PT) : ∀ env H, (En 26 k3 (B12 P)) env H → AW Try.prog T0 code env H (mkQ (ret P) (fun _ _ _ => False) (ret P)) :=
  (r_seq (rB T0_ok (q12 P)) (r_seq (r_seq (rB T0_ok (q11 P)) (r_block (rL (l2 P) (fun N2 => (r_seq (r_seq (rB T0_ok (q10 P N2)) (r_cond rfl r_skip (r_exit (fun _ _ h => h)))) (r_seq (r_block (r_seq (rB T0_ok (q9 P N2)) (r_block (rL (l4 P N2) (fun N4 => (r_seq (r_seq (rB T0_ok (q8 P N2 N4)) (r_cond rfl r_skip (r_exit (fun _ _ h => h)))) (r_seq (r_block (r_seq (rB T0_ok (q7 P N2 N4)) (rB T0_ok (q6 P N2 N4)))) (rB T0_ok (q5 P N2 N4))))))))) (rB T0_ok (q3 P N2)))))))) (r_seq (rB T0_ok (q1 P)) r_ret)))
theorem ac (P : PT) (x0 : Value) (x1 : Int) (H : AHeap) (h : B12 P x0 x1 H) : AC Try.prog T0 68 [x0, (Value.int .i64 x1)] H P :=
  r_fn T0_ok (c := code) (n := 26) Try.func68 body (by kernel_rfl) (main P) (En_mk (x0, x1, ()) (by kernel_rfl) ⟨by kernel_rfl, by kernel_rfl, trivial⟩ h)

end F68
-- loop.example/g01329/laws.eqEdge
namespace F83
noncomputable def ret (P : PT) : EP := retE T0 17 Try.f83 P
abbrev k0 : Sk := []
noncomputable def o1 := ob Try.f83 [.r,.r,.l]
def B1 (P : PT) (H : AHeap) : Prop :=
  P (Value.bool true) H
theorem q1 (P : PT) : QB Try.prog T0 17 o1 (ret P) k0 (B1 P) := fun _ _  => by kernel_rfl
abbrev k1 : Sk := [(2,.x),(3,.x),(5,.i .i64)]
noncomputable def o3 := ob Try.f83 [.r,.l,.r,.l,.l,.r,.r]
def B3 (P : PT) (N2 : NTy k1 Pr) (x2 x3 : Nat) (x5 : Int) (H : AHeap) : Prop :=
  N2 x2 x3 (IntKind.i64.wrap (x5 + 1)) H
theorem q3 (P : PT) (N2 : NTy k1 Pr) : QB Try.prog T0 17 o3 (En 17 k1 N2) k1 (B3 P N2) := fun _ _ _ _ _  => by kernel_rfl
noncomputable def o4 := ob Try.f83 [.r,.l,.r,.l,.l,.r,.l,.l,.r,.l,.l]
def B4 (P : PT) (N2 : NTy k1 Pr) (H : AHeap) : Prop :=
  P (Value.bool false) H
theorem q4 (P : PT) (N2 : NTy k1 Pr) : QB Try.prog T0 17 o4 (ret P) k0 (B4 P N2) := fun _ _  => by kernel_rfl
noncomputable def o5 := ob Try.f83 [.r,.l,.r,.l,.l,.r,.l,.l,.l]
def B5 (P : PT) (N2 : NTy k1 Pr) (x2 x3 : Nat) (x5 : Int) (H : AHeap) : Prop :=
  bndK x5 2 (ldI .i64 H x2 (0 + Int.toNat x5 * 1) (fun v1 => bndK x5 2 (ldI .i64 H x3 (0 + Int.toNat x5 * 1) (fun v2 => pif ((v1 : Int) != v2) (B4 P N2 H) (B3 P N2 x2 x3 x5 H)))))
theorem q5 (P : PT) (N2 : NTy k1 Pr) : QD Try.prog T0 17 o5 [(0, false), (1, false), (2, false), (3, false), (4, false), (5, false), (6, false)] (cnd 16 (En 17 k0 (B4 P N2)) (En 17 k1 (B3 P N2))) k1 (B5 P N2) := fun _ _ _ _ _  => by kernel_rfl
noncomputable def o6 := ob Try.f83 [.r,.l,.r,.l,.l,.l,.l]
def B6 (P : PT) (N2 : NTy k1 Pr) (x2 x3 : Nat) (x5 : Int) (H : AHeap) : Prop :=
  pif (decide ((x5 : Int) < 2)) (B5 P N2 x2 x3 x5 H) (B1 P H)
theorem q6 (P : PT) (N2 : NTy k1 Pr) : QB Try.prog T0 17 o6 (cnd 7 (En 17 k1 (B5 P N2)) (En 17 k0 (B1 P))) k1 (B6 P N2) := fun _ _ _ _ _  => by kernel_rfl
def L2 (P : PT) (x2 x3 : Nat) (x5 : Int) (H : AHeap) : Prop :=
  ∃ (I : NTy k1 Pr) (μ : NTy k1 (AHeap → Nat)), I x2 x3 x5 H ∧ ∀ y2 y3 y5 G, I y2 y3 y5 G → B6 P (fun z2 z3 z5 G' => I z2 z3 z5 G' ∧ μ z2 z3 z5 G' < μ y2 y3 y5 G) y2 y3 y5 G
theorem l2 (P : PT) : LQ k1 (L2 P) (B6 P) := fun ⟨_,_,_,_⟩ _ ⟨I, μ, h0, hI⟩ => ⟨apT _ I, apT _ μ, h0, fun ⟨_,_,_,_⟩ _ h => hI _ _ _ _  h⟩
abbrev k2 : Sk := [(2,.x),(3,.x)]
noncomputable def o7 := ob Try.f83 [.r,.l,.l]
def B7 (P : PT) (x2 x3 : Nat) (H : AHeap) : Prop :=
  L2 P x2 x3 0 H
theorem q7 (P : PT) : QB Try.prog T0 17 o7 (En 17 k1 (L2 P)) k2 (B7 P) := fun _ _ _ _  => by kernel_rfl
abbrev k3 : Sk := [(0,.g [.i,.i]),(1,.g [.i,.i])]
noncomputable def o8 := ob Try.f83 [.l]
def B8 (P : PT) (x0a x0b x1a x1b : Int) (H : AHeap) : Prop :=
  newK H [(Value.int .i64 x0a), (Value.int .i64 x0b)] 67 (fun b1 H2 => newK H2 [(Value.int .i64 x1a), (Value.int .i64 x1b)] 67 (fun b3 H4 => B7 P b1 b3 H4))
theorem q8 (P : PT) : QB Try.prog T0 17 o8 (En 17 k2 (B7 P)) k3 (B8 P) := fun _ _ _ _ _ _  => by kernel_rfl
noncomputable def code : Code := (.seq (.region 0 ⟨o8⟩ false) (.seq (.seq (.region 1 ⟨o7⟩ false) (.block 0 (.loop (.seq (.seq (.region 2 ⟨o6⟩ false) (.cond (.tmp 7) .skip (.exit 0))) (.seq (.block 1 (.seq (.region 4 ⟨o5⟩ true) (.cond (.tmp 16) (.seq (.region 5 ⟨o4⟩ false) .ret) .skip))) (.region 3 ⟨o3⟩ false)))))) (.seq (.region 6 ⟨o1⟩ false) .ret)))
theorem body : Try.f83.body = some code := by kernel_rfl
theorem main (P : PT) : ∀ env H, (En 17 k3 (B8 P)) env H → AW Try.prog T0 code env H (mkQ (ret P) (fun _ _ _ => False) (ret P)) :=
  (r_seq (rB T0_ok (q8 P)) (r_seq (r_seq (rB T0_ok (q7 P)) (r_block (rL (l2 P) (fun N2 => (r_seq (r_seq (rB T0_ok (q6 P N2)) (r_cond rfl r_skip (r_exit (fun _ _ h => h)))) (r_seq (r_block (r_seq (rD T0_ok mixed [(0, false), (1, false), (2, false), (3, false), (4, false), (5, false), (6, false)] (by kernel_rfl) (q5 P N2)) (r_cond rfl (r_seq (rB T0_ok (q4 P N2)) r_ret) r_skip))) (rB T0_ok (q3 P N2)))))))) (r_seq (rB T0_ok (q1 P)) r_ret)))
theorem ac (P : PT) (x0a x0b x1a x1b : Int) (H : AHeap) (h : B8 P x0a x0b x1a x1b H) : AC Try.prog T0 83 [(Value.agg ⟨[(Value.int .i64 x0a), (Value.int .i64 x0b)]⟩), (Value.agg ⟨[(Value.int .i64 x1a), (Value.int .i64 x1b)]⟩)] H P :=
  r_fn T0_ok (c := code) (n := 17) Try.func83 body (by kernel_rfl) (main P) (En_mk (x0a, x0b, x1a, x1b, ()) (by kernel_rfl) ⟨by kernel_rfl, by kernel_rfl, trivial⟩ h)

end F83
-- loop.example/g01329/spec.l01Named
namespace F96
noncomputable def ret (P : PT) : EP := retE T0 228 Try.f96 P
abbrev k0 : Sk := [(2,.x)]
noncomputable def o1 := ob Try.f96 [.r,.r,.r,.l]
def B1 (P : PT) (x2 : Nat) (H : AHeap) : Prop :=
  stK H x2 0 [(Value.int .i64 0), (Value.slice none 0 0)] (fun H1 => ldI .i64 H1 x2 0 (fun v2 => ld1 H1 x2 1 (fun v3 => P (Value.tuple ⟨[(Value.agg ⟨[(Value.int .i64 v2), v3]⟩), (Value.bool false)]⟩) H1)))
theorem q1 (P : PT) : QB Try.prog T0 228 o1 (ret P) k0 (B1 P) := fun _ _ _  => by kernel_rfl
noncomputable def o2 := ob Try.f96 [.r,.r,.l,.r,.l,.r,.l,.l]
def B2 (P : PT) (x2 : Nat) (H : AHeap) : Prop :=
  newK H [(Value.int .i64 0), (Value.int .i64 1), (Value.int .i64 0), (Value.int .i64 1), (Value.int .i64 0), (Value.int .i64 1)] 67 (fun b1 H2 => AC Try.prog T0 146 [(Value.int .i64 2), (Value.slice (some ⟨b1, 0, none⟩) 3 (3 + 1))] H2 (fun v3 H4 => agg2 v3 (fun v5 v6 => asI .i64 v5 (fun v7 => stK H4 x2 0 [(Value.int .i64 v7), v6] (fun H9 => ldI .i64 H9 x2 0 (fun v10 => ld1 H9 x2 1 (fun v11 => P (Value.tuple ⟨[(Value.agg ⟨[(Value.int .i64 v10), v11]⟩), (Value.bool true)]⟩) H9)))))))
theorem q2 (P : PT) : QB Try.prog T0 228 o2 (ret P) k0 (B2 P) := fun _ _ _  => by kernel_rfl
noncomputable def o3 := ob Try.f96 [.r,.r,.l,.r,.l,.r,.r,.r,.l,.l]
def B3 (P : PT) (x2 : Nat) (H : AHeap) : Prop :=
  newK H [(Value.int .i64 0), (Value.int .i64 1), (Value.int .i64 0), (Value.int .i64 2), (Value.int .i64 0), (Value.int .i64 3), (Value.int .i64 1), (Value.int .i64 2), (Value.int .i64 1), (Value.int .i64 3), (Value.int .i64 2), (Value.int .i64 3)] 67 (fun b1 H2 => AC Try.prog T0 146 [(Value.int .i64 4), (Value.slice (some ⟨b1, 0, none⟩) 6 (6 + 1))] H2 (fun v3 H4 => agg2 v3 (fun v5 v6 => asI .i64 v5 (fun v7 => stK H4 x2 0 [(Value.int .i64 v7), v6] (fun H9 => ldI .i64 H9 x2 0 (fun v10 => ld1 H9 x2 1 (fun v11 => P (Value.tuple ⟨[(Value.agg ⟨[(Value.int .i64 v10), v11]⟩), (Value.bool true)]⟩) H9)))))))
theorem q3 (P : PT) : QB Try.prog T0 228 o3 (ret P) k0 (B3 P) := fun _ _ _  => by kernel_rfl
abbrev k1 : Sk := [(2,.x),(4,.v)]
noncomputable def o4 := ob Try.f96 [.r,.r,.l,.r,.l,.r,.r,.r,.r,.r,.l,.r,.l]
def B4 (P : PT) (x2 : Nat) (x4 : Value) (H : AHeap) : Prop :=
  AC Try.prog T0 146 [(Value.int .i64 6), x4] H (fun v1 H2 => agg2 v1 (fun v3 v4 => asI .i64 v3 (fun v5 => stK H2 x2 0 [(Value.int .i64 v5), v4] (fun H7 => ldI .i64 H7 x2 0 (fun v8 => ld1 H7 x2 1 (fun v9 => P (Value.tuple ⟨[(Value.agg ⟨[(Value.int .i64 v8), v9]⟩), (Value.bool true)]⟩) H7))))))
theorem q4 (P : PT) : QB Try.prog T0 228 o4 (ret P) k1 (B4 P) := fun _ _ _ _  => by kernel_rfl
abbrev k2 : Sk := [(2,.x),(4,.v),(5,.i .i64)]
noncomputable def o6 := ob Try.f96 [.r,.r,.l,.r,.l,.r,.r,.r,.r,.r,.l,.l,.r,.l,.l,.r,.r]
def B6 (P : PT) (N5 : NTy k2 Pr) (x2 : Nat) (x4 : Value) (x5 : Int) (H : AHeap) : Prop :=
  N5 x2 x4 (IntKind.i64.wrap (x5 + 1)) H
theorem q6 (P : PT) (N5 : NTy k2 Pr) : QB Try.prog T0 228 o6 (En 228 k2 N5) k2 (B6 P N5) := fun _ _ _ _ _  => by kernel_rfl
noncomputable def o7 := ob Try.f96 [.r,.r,.l,.r,.l,.r,.r,.r,.r,.r,.l,.l,.r,.l,.l,.r,.l,.l]
def B7 (P : PT) (N5 : NTy k2 Pr) (x2 : Nat) (x4 : Value) (x5 : Int) (H : AHeap) : Prop :=
  newK H [(Value.int .i64 x5), (Value.int .i64 3), (Value.int .i64 x5), (Value.int .i64 4), (Value.int .i64 x5), (Value.int .i64 5)] 67 (fun b1 H2 => apK T0 67 H2 x4 (Value.slice (some ⟨b1, 0, none⟩) 3 (3 + 1)) (fun v3 H4 => B6 P N5 x2 v3 x5 H4))
theorem q7 (P : PT) (N5 : NTy k2 Pr) : QB Try.prog T0 228 o7 (En 228 k2 (B6 P N5)) k2 (B7 P N5) := fun _ _ _ _ _  => by kernel_rfl
noncomputable def o8 := ob Try.f96 [.r,.r,.l,.r,.l,.r,.r,.r,.r,.r,.l,.l,.r,.l,.l,.l,.l]
def B8 (P : PT) (N5 : NTy k2 Pr) (x2 : Nat) (x4 : Value) (x5 : Int) (H : AHeap) : Prop :=
  pif (decide ((x5 : Int) < 3)) (B7 P N5 x2 x4 x5 H) (B4 P x2 x4 H)
theorem q8 (P : PT) (N5 : NTy k2 Pr) : QB Try.prog T0 228 o8 (cnd 36 (En 228 k2 (B7 P N5)) (En 228 k1 (B4 P))) k2 (B8 P N5) := fun _ _ _ _ _  => by kernel_rfl
def L5 (P : PT) (x2 : Nat) (x4 : Value) (x5 : Int) (H : AHeap) : Prop :=
  ∃ (I : NTy k2 Pr) (μ : NTy k2 (AHeap → Nat)), I x2 x4 x5 H ∧ ∀ y2 y4 y5 G, I y2 y4 y5 G → B8 P (fun z2 z4 z5 G' => I z2 z4 z5 G' ∧ μ z2 z4 z5 G' < μ y2 y4 y5 G) y2 y4 y5 G
theorem l5 (P : PT) : LQ k2 (L5 P) (B8 P) := fun ⟨_,_,_,_⟩ _ ⟨I, μ, h0, hI⟩ => ⟨apT _ I, apT _ μ, h0, fun ⟨_,_,_,_⟩ _ h => hI _ _ _ _  h⟩
noncomputable def o9 := ob Try.f96 [.r,.r,.l,.r,.l,.r,.r,.r,.r,.r,.l,.l,.l]
def B9 (P : PT) (x2 : Nat) (x4 : Value) (H : AHeap) : Prop :=
  L5 P x2 x4 0 H
theorem q9 (P : PT) : QB Try.prog T0 228 o9 (En 228 k2 (L5 P)) k1 (B9 P) := fun _ _ _ _  => by kernel_rfl
noncomputable def o10 := ob Try.f96 [.r,.r,.l,.r,.l,.r,.r,.r,.r,.r,.r,.r,.l,.r,.l]
def B10 (P : PT) (x2 : Nat) (x4 : Value) (H : AHeap) : Prop :=
  newK H [(Value.int .i64 0), (Value.int .i64 3), (Value.int .i64 1), (Value.int .i64 4), (Value.int .i64 2), (Value.int .i64 5)] 67 (fun b1 H2 => apK T0 67 H2 x4 (Value.slice (some ⟨b1, 0, none⟩) 3 (3 + 1)) (fun v3 H4 => AC Try.prog T0 146 [(Value.int .i64 6), v3] H4 (fun v5 H6 => agg2 v5 (fun v7 v8 => asI .i64 v7 (fun v9 => stK H6 x2 0 [(Value.int .i64 v9), v8] (fun H11 => ldI .i64 H11 x2 0 (fun v12 => ld1 H11 x2 1 (fun v13 => P (Value.tuple ⟨[(Value.agg ⟨[(Value.int .i64 v12), v13]⟩), (Value.bool true)]⟩) H11))))))))
theorem q10 (P : PT) : QB Try.prog T0 228 o10 (ret P) k1 (B10 P) := fun _ _ _ _  => by kernel_rfl
noncomputable def o11 := ob Try.f96 [.r,.r,.l,.r,.l,.r,.r,.r,.r,.r,.r,.r,.l,.l]
def B11 (P : PT) (x2 : Nat) (x4 : Value) (H : AHeap) : Prop :=
  newK H [(Value.int .i64 0), (Value.int .i64 1), (Value.int .i64 2)] 2 (fun b1 H2 => AC Try.prog T0 147 [x4, (Value.slice (some ⟨b1, 0, none⟩) 3 (3 + 1))] H2 (fun v3 H4 => newK H4 [(Value.int .i64 3), (Value.int .i64 4), (Value.int .i64 5)] 2 (fun b6 H7 => AC Try.prog T0 147 [v3, (Value.slice (some ⟨b6, 0, none⟩) 3 (3 + 1))] H7 (fun v8 H9 => B10 P x2 v8 H9))))
theorem q11 (P : PT) : QB Try.prog T0 228 o11 (En 228 k1 (B10 P)) k1 (B11 P) := fun _ _ _ _  => by kernel_rfl
noncomputable def o12 := ob Try.f96 [.r,.r,.l,.r,.l,.r,.r,.r,.r,.r,.r,.r,.r,.r,.l,.r,.l]
def B12 (P : PT) (x2 : Nat) (x4 : Value) (H : AHeap) : Prop :=
  AC Try.prog T0 146 [(Value.int .i64 8), x4] H (fun v1 H2 => agg2 v1 (fun v3 v4 => asI .i64 v3 (fun v5 => stK H2 x2 0 [(Value.int .i64 v5), v4] (fun H7 => ldI .i64 H7 x2 0 (fun v8 => ld1 H7 x2 1 (fun v9 => P (Value.tuple ⟨[(Value.agg ⟨[(Value.int .i64 v8), v9]⟩), (Value.bool true)]⟩) H7))))))
theorem q12 (P : PT) : QB Try.prog T0 228 o12 (ret P) k1 (B12 P) := fun _ _ _ _  => by kernel_rfl
abbrev k3 : Sk := [(2,.x),(4,.v),(6,.i .i64)]
noncomputable def o14 := ob Try.f96 [.r,.r,.l,.r,.l,.r,.r,.r,.r,.r,.r,.r,.r,.r,.l,.l,.r,.l,.l,.r,.r]
def B14 (P : PT) (N13 : NTy k3 Pr) (x2 : Nat) (x4 : Value) (x6 : Int) (H : AHeap) : Prop :=
  N13 x2 x4 (IntKind.i64.wrap (x6 + 1)) H
theorem q14 (P : PT) (N13 : NTy k3 Pr) : QB Try.prog T0 228 o14 (En 228 k3 N13) k3 (B14 P N13) := fun _ _ _ _ _  => by kernel_rfl
abbrev k4 : Sk := [(2,.x),(4,.v),(6,.i .i64),(7,.i .i64)]
noncomputable def o16 := ob Try.f96 [.r,.r,.l,.r,.l,.r,.r,.r,.r,.r,.r,.r,.r,.r,.l,.l,.r,.l,.l,.r,.l,.l,.r,.l,.l,.r,.r]
def B16 (P : PT) (N13 : NTy k3 Pr) (N15 : NTy k4 Pr) (x2 : Nat) (x4 : Value) (x6 x7 : Int) (H : AHeap) : Prop :=
  N15 x2 x4 x6 (IntKind.i64.wrap (2 * x7)) H
theorem q16 (P : PT) (N13 : NTy k3 Pr) (N15 : NTy k4 Pr) : QB Try.prog T0 228 o16 (En 228 k4 N15) k4 (B16 P N13 N15) := fun _ _ _ _ _ _  => by kernel_rfl
noncomputable def o17 := ob Try.f96 [.r,.r,.l,.r,.l,.r,.r,.r,.r,.r,.r,.r,.r,.r,.l,.l,.r,.l,.l,.r,.l,.l,.r,.l,.l,.r,.l,.l,.r,.l]
def B17 (P : PT) (N13 : NTy k3 Pr) (N15 : NTy k4 Pr) (x2 : Nat) (x4 : Value) (x6 x7 : Int) (H : AHeap) : Prop :=
  newK H [(Value.int .i64 x6), (Value.int .i64 (IntKind.i64.wrap (x6 + x7)))] 67 (fun b1 H2 => apK T0 67 H2 x4 (Value.slice (some ⟨b1, 0, none⟩) 1 (1 + 1)) (fun v3 H4 => B16 P N13 N15 x2 v3 x6 x7 H4))
theorem q17 (P : PT) (N13 : NTy k3 Pr) (N15 : NTy k4 Pr) : QB Try.prog T0 228 o17 (En 228 k4 (B16 P N13 N15)) k4 (B17 P N13 N15) := fun _ _ _ _ _ _  => by kernel_rfl
noncomputable def o18 := ob Try.f96 [.r,.r,.l,.r,.l,.r,.r,.r,.r,.r,.r,.r,.r,.r,.l,.l,.r,.l,.l,.r,.l,.l,.r,.l,.l,.r,.l,.l,.l]
def B18 (P : PT) (N13 : NTy k3 Pr) (N15 : NTy k4 Pr) (x2 : Nat) (x4 : Value) (x6 x7 : Int) (H : AHeap) : Prop :=
  pif ((IntKind.i64.wrap (BitVec.ofInt 64 x6 &&& BitVec.ofInt 64 x7).toNat : Int) == 0) (B17 P N13 N15 x2 x4 x6 x7 H) (B16 P N13 N15 x2 x4 x6 x7 H)
theorem q18 (P : PT) (N13 : NTy k3 Pr) (N15 : NTy k4 Pr) : QB Try.prog T0 228 o18 (cnd 77 (En 228 k4 (B17 P N13 N15)) (En 228 k4 (B16 P N13 N15))) k4 (B18 P N13 N15) := fun _ _ _ _ _ _  => by kernel_rfl
noncomputable def o19 := ob Try.f96 [.r,.r,.l,.r,.l,.r,.r,.r,.r,.r,.r,.r,.r,.r,.l,.l,.r,.l,.l,.r,.l,.l,.r,.l,.l,.l,.l]
def B19 (P : PT) (N13 : NTy k3 Pr) (N15 : NTy k4 Pr) (x2 : Nat) (x4 : Value) (x6 x7 : Int) (H : AHeap) : Prop :=
  pif (decide ((x7 : Int) < 8)) (B18 P N13 N15 x2 x4 x6 x7 H) (B14 P N13 x2 x4 x6 H)
theorem q19 (P : PT) (N13 : NTy k3 Pr) (N15 : NTy k4 Pr) : QB Try.prog T0 228 o19 (cnd 71 (En 228 k4 (B18 P N13 N15)) (En 228 k3 (B14 P N13))) k4 (B19 P N13 N15) := fun _ _ _ _ _ _  => by kernel_rfl
def L15 (P : PT) (N13 : NTy k3 Pr) (x2 : Nat) (x4 : Value) (x6 x7 : Int) (H : AHeap) : Prop :=
  ∃ (I : NTy k4 Pr) (μ : NTy k4 (AHeap → Nat)), I x2 x4 x6 x7 H ∧ ∀ y2 y4 y6 y7 G, I y2 y4 y6 y7 G → B19 P N13 (fun z2 z4 z6 z7 G' => I z2 z4 z6 z7 G' ∧ μ z2 z4 z6 z7 G' < μ y2 y4 y6 y7 G) y2 y4 y6 y7 G
theorem l15 (P : PT) (N13 : NTy k3 Pr) : LQ k4 (L15 P N13) (B19 P N13) := fun ⟨_,_,_,_,_⟩ _ ⟨I, μ, h0, hI⟩ => ⟨apT _ I, apT _ μ, h0, fun ⟨_,_,_,_,_⟩ _ h => hI _ _ _ _ _  h⟩
noncomputable def o20 := ob Try.f96 [.r,.r,.l,.r,.l,.r,.r,.r,.r,.r,.r,.r,.r,.r,.l,.l,.r,.l,.l,.r,.l,.l,.l]
def B20 (P : PT) (N13 : NTy k3 Pr) (x2 : Nat) (x4 : Value) (x6 : Int) (H : AHeap) : Prop :=
  L15 P N13 x2 x4 x6 1 H
theorem q20 (P : PT) (N13 : NTy k3 Pr) : QB Try.prog T0 228 o20 (En 228 k4 (L15 P N13)) k3 (B20 P N13) := fun _ _ _ _ _  => by kernel_rfl
noncomputable def o21 := ob Try.f96 [.r,.r,.l,.r,.l,.r,.r,.r,.r,.r,.r,.r,.r,.r,.l,.l,.r,.l,.l,.l,.l]
def B21 (P : PT) (N13 : NTy k3 Pr) (x2 : Nat) (x4 : Value) (x6 : Int) (H : AHeap) : Prop :=
  pif (decide ((x6 : Int) < 8)) (B20 P N13 x2 x4 x6 H) (B12 P x2 x4 H)
theorem q21 (P : PT) (N13 : NTy k3 Pr) : QB Try.prog T0 228 o21 (cnd 67 (En 228 k3 (B20 P N13)) (En 228 k1 (B12 P))) k3 (B21 P N13) := fun _ _ _ _ _  => by kernel_rfl
def L13 (P : PT) (x2 : Nat) (x4 : Value) (x6 : Int) (H : AHeap) : Prop :=
  ∃ (I : NTy k3 Pr) (μ : NTy k3 (AHeap → Nat)), I x2 x4 x6 H ∧ ∀ y2 y4 y6 G, I y2 y4 y6 G → B21 P (fun z2 z4 z6 G' => I z2 z4 z6 G' ∧ μ z2 z4 z6 G' < μ y2 y4 y6 G) y2 y4 y6 G
theorem l13 (P : PT) : LQ k3 (L13 P) (B21 P) := fun ⟨_,_,_,_⟩ _ ⟨I, μ, h0, hI⟩ => ⟨apT _ I, apT _ μ, h0, fun ⟨_,_,_,_⟩ _ h => hI _ _ _ _  h⟩
noncomputable def o22 := ob Try.f96 [.r,.r,.l,.r,.l,.r,.r,.r,.r,.r,.r,.r,.r,.r,.l,.l,.l]
def B22 (P : PT) (x2 : Nat) (x4 : Value) (H : AHeap) : Prop :=
  L13 P x2 x4 0 H
theorem q22 (P : PT) : QB Try.prog T0 228 o22 (En 228 k3 (L13 P)) k1 (B22 P) := fun _ _ _ _  => by kernel_rfl
noncomputable def o23 := ob Try.f96 [.r,.r,.l,.r,.l,.r,.r,.r,.r,.r,.r,.r,.r,.r,.r,.r,.l,.r,.l]
def B23 (P : PT) (x2 : Nat) (x4 : Value) (H : AHeap) : Prop :=
  AC Try.prog T0 146 [(Value.int .i64 10), x4] H (fun v1 H2 => agg2 v1 (fun v3 v4 => asI .i64 v3 (fun v5 => stK H2 x2 0 [(Value.int .i64 v5), v4] (fun H7 => ldI .i64 H7 x2 0 (fun v8 => ld1 H7 x2 1 (fun v9 => P (Value.tuple ⟨[(Value.agg ⟨[(Value.int .i64 v8), v9]⟩), (Value.bool true)]⟩) H7))))))
theorem q23 (P : PT) : QB Try.prog T0 228 o23 (ret P) k1 (B23 P) := fun _ _ _ _  => by kernel_rfl
abbrev k5 : Sk := [(2,.x),(4,.v),(8,.i .i64)]
noncomputable def o25 := ob Try.f96 [.r,.r,.l,.r,.l,.r,.r,.r,.r,.r,.r,.r,.r,.r,.r,.r,.l,.l,.r,.l,.l,.r,.r]
def B25 (P : PT) (N24 : NTy k5 Pr) (x2 : Nat) (x4 : Value) (x8 : Int) (H : AHeap) : Prop :=
  N24 x2 x4 (IntKind.i64.wrap (x8 + 1)) H
theorem q25 (P : PT) (N24 : NTy k5 Pr) : QB Try.prog T0 228 o25 (En 228 k5 N24) k5 (B25 P N24) := fun _ _ _ _ _  => by kernel_rfl
noncomputable def o26 := ob Try.f96 [.r,.r,.l,.r,.l,.r,.r,.r,.r,.r,.r,.r,.r,.r,.r,.r,.l,.l,.r,.l,.l,.r,.l,.l]
def B26 (P : PT) (N24 : NTy k5 Pr) (x2 : Nat) (x4 : Value) (x8 : Int) (H : AHeap) : Prop :=
  newK H [(Value.int .i64 x8), (Value.int .i64 (Int.tmod (IntKind.i64.wrap (x8 + 1)) 5)), (Value.int .i64 x8), (Value.int .i64 (IntKind.i64.wrap (x8 + 5))), (Value.int .i64 (IntKind.i64.wrap (x8 + 5))), (Value.int .i64 (IntKind.i64.wrap ((Int.tmod (IntKind.i64.wrap (x8 + 2)) 5) + 5)))] 67 (fun b1 H2 => apK T0 67 H2 x4 (Value.slice (some ⟨b1, 0, none⟩) 3 (3 + 1)) (fun v3 H4 => B25 P N24 x2 v3 x8 H4))
theorem q26 (P : PT) (N24 : NTy k5 Pr) : QB Try.prog T0 228 o26 (En 228 k5 (B25 P N24)) k5 (B26 P N24) := fun _ _ _ _ _  => by kernel_rfl
noncomputable def o27 := ob Try.f96 [.r,.r,.l,.r,.l,.r,.r,.r,.r,.r,.r,.r,.r,.r,.r,.r,.l,.l,.r,.l,.l,.l,.l]
def B27 (P : PT) (N24 : NTy k5 Pr) (x2 : Nat) (x4 : Value) (x8 : Int) (H : AHeap) : Prop :=
  pif (decide ((x8 : Int) < 5)) (B26 P N24 x2 x4 x8 H) (B23 P x2 x4 H)
theorem q27 (P : PT) (N24 : NTy k5 Pr) : QB Try.prog T0 228 o27 (cnd 91 (En 228 k5 (B26 P N24)) (En 228 k1 (B23 P))) k5 (B27 P N24) := fun _ _ _ _ _  => by kernel_rfl
def L24 (P : PT) (x2 : Nat) (x4 : Value) (x8 : Int) (H : AHeap) : Prop :=
  ∃ (I : NTy k5 Pr) (μ : NTy k5 (AHeap → Nat)), I x2 x4 x8 H ∧ ∀ y2 y4 y8 G, I y2 y4 y8 G → B27 P (fun z2 z4 z8 G' => I z2 z4 z8 G' ∧ μ z2 z4 z8 G' < μ y2 y4 y8 G) y2 y4 y8 G
theorem l24 (P : PT) : LQ k5 (L24 P) (B27 P) := fun ⟨_,_,_,_⟩ _ ⟨I, μ, h0, hI⟩ => ⟨apT _ I, apT _ μ, h0, fun ⟨_,_,_,_⟩ _ h => hI _ _ _ _  h⟩
noncomputable def o28 := ob Try.f96 [.r,.r,.l,.r,.l,.r,.r,.r,.r,.r,.r,.r,.r,.r,.r,.r,.l,.l,.l]
def B28 (P : PT) (x2 : Nat) (x4 : Value) (H : AHeap) : Prop :=
  L24 P x2 x4 0 H
theorem q28 (P : PT) : QB Try.prog T0 228 o28 (En 228 k5 (L24 P)) k1 (B28 P) := fun _ _ _ _  => by kernel_rfl
noncomputable def o29 := ob Try.f96 [.r,.r,.l,.r,.l,.r,.r,.r,.r,.r,.r,.r,.r,.r,.r,.r,.r,.r,.l,.r,.r,.r,.l]
def B29 (P : PT) (x2 : Nat) (x4 : Value) (H : AHeap) : Prop :=
  newK H [(Value.int .i64 0), (Value.int .i64 1), (Value.int .i64 10), (Value.int .i64 4), (Value.int .i64 11), (Value.int .i64 5)] 67 (fun b1 H2 => apK T0 67 H2 x4 (Value.slice (some ⟨b1, 0, none⟩) 3 (3 + 1)) (fun v3 H4 => AC Try.prog T0 146 [(Value.int .i64 12), v3] H4 (fun v5 H6 => agg2 v5 (fun v7 v8 => asI .i64 v7 (fun v9 => stK H6 x2 0 [(Value.int .i64 v9), v8] (fun H11 => ldI .i64 H11 x2 0 (fun v12 => ld1 H11 x2 1 (fun v13 => P (Value.tuple ⟨[(Value.agg ⟨[(Value.int .i64 v12), v13]⟩), (Value.bool true)]⟩) H11))))))))
theorem q29 (P : PT) : QB Try.prog T0 228 o29 (ret P) k1 (B29 P) := fun _ _ _ _  => by kernel_rfl
noncomputable def o30 := ob Try.f96 [.r,.r,.l,.r,.l,.r,.r,.r,.r,.r,.r,.r,.r,.r,.r,.r,.r,.r,.l,.r,.r,.l]
def B30 (P : PT) (x2 : Nat) (x4 : Value) (H : AHeap) : Prop :=
  newK H [(Value.int .i64 0), (Value.int .i64 10), (Value.int .i64 11)] 2 (fun b1 H2 => AC Try.prog T0 147 [x4, (Value.slice (some ⟨b1, 0, none⟩) 3 (3 + 1))] H2 (fun v3 H4 => B29 P x2 v3 H4))
theorem q30 (P : PT) : QB Try.prog T0 228 o30 (En 228 k1 (B29 P)) k1 (B30 P) := fun _ _ _ _  => by kernel_rfl
abbrev k6 : Sk := [(2,.x),(4,.v),(9,.x),(11,.i .i64)]
noncomputable def o32 := ob Try.f96 [.r,.r,.l,.r,.l,.r,.r,.r,.r,.r,.r,.r,.r,.r,.r,.r,.r,.r,.l,.r,.l,.r,.l,.l,.r,.r]
def B32 (P : PT) (N31 : NTy k6 Pr) (x2 : Nat) (x4 : Value) (x9 : Nat) (x11 : Int) (H : AHeap) : Prop :=
  N31 x2 x4 x9 (IntKind.i64.wrap (x11 + 1)) H
theorem q32 (P : PT) (N31 : NTy k6 Pr) : QB Try.prog T0 228 o32 (En 228 k6 N31) k6 (B32 P N31) := fun _ _ _ _ _ _  => by kernel_rfl
noncomputable def o33 := ob Try.f96 [.r,.r,.l,.r,.l,.r,.r,.r,.r,.r,.r,.r,.r,.r,.r,.r,.r,.r,.l,.r,.l,.r,.l,.l,.r,.l,.l,.r,.l]
def B33 (P : PT) (N31 : NTy k6 Pr) (x2 : Nat) (x4 : Value) (x9 : Nat) (x11 : Int) (H : AHeap) : Prop :=
  ld1 H x9 1 (fun v1 => idxK v1 x11 2 (fun b2 o3 => ldI .i64 H b2 o3 (fun v4 => ldI .i64 H b2 (o3 + 1) (fun v5 => newK H [(Value.int .i64 v4), (Value.int .i64 v5)] 67 (fun b6 H7 => apK T0 67 H7 x4 (Value.slice (some ⟨b6, 0, none⟩) 1 (1 + 1)) (fun v8 H9 => B32 P N31 x2 v8 x9 x11 H9))))))
theorem q33 (P : PT) (N31 : NTy k6 Pr) : QB Try.prog T0 228 o33 (En 228 k6 (B32 P N31)) k6 (B33 P N31) := fun _ _ _ _ _ _  => by kernel_rfl
noncomputable def o34 := ob Try.f96 [.r,.r,.l,.r,.l,.r,.r,.r,.r,.r,.r,.r,.r,.r,.r,.r,.r,.r,.l,.r,.l,.r,.l,.l,.r,.l,.l,.l]
def B34 (P : PT) (N31 : NTy k6 Pr) (x2 : Nat) (x4 : Value) (x9 : Nat) (x11 : Int) (H : AHeap) : Prop :=
  ld1 H x9 1 (fun v1 => idxK v1 x11 2 (fun b2 o3 => ldI .i64 H b2 o3 (fun v4 => pif ((v4 : Int) != 0) (B33 P N31 x2 x4 x9 x11 H) (B32 P N31 x2 x4 x9 x11 H))))
theorem q34 (P : PT) (N31 : NTy k6 Pr) : QB Try.prog T0 228 o34 (cnd 134 (En 228 k6 (B33 P N31)) (En 228 k6 (B32 P N31))) k6 (B34 P N31) := fun _ _ _ _ _ _  => by kernel_rfl
noncomputable def o35 := ob Try.f96 [.r,.r,.l,.r,.l,.r,.r,.r,.r,.r,.r,.r,.r,.r,.r,.r,.r,.r,.l,.r,.l,.r,.l,.l,.l,.l]
def B35 (P : PT) (N31 : NTy k6 Pr) (x2 : Nat) (x4 : Value) (x9 : Nat) (x11 : Int) (H : AHeap) : Prop :=
  ld1 H x9 1 (fun v1 => lenK v1 (fun n2 => pif (decide ((x11 : Int) < (n2 : Int))) (B34 P N31 x2 x4 x9 x11 H) (B30 P x2 x4 H)))
theorem q35 (P : PT) (N31 : NTy k6 Pr) : QB Try.prog T0 228 o35 (cnd 125 (En 228 k6 (B34 P N31)) (En 228 k1 (B30 P))) k6 (B35 P N31) := fun _ _ _ _ _ _  => by kernel_rfl
def L31 (P : PT) (x2 : Nat) (x4 : Value) (x9 : Nat) (x11 : Int) (H : AHeap) : Prop :=
  ∃ (I : NTy k6 Pr) (μ : NTy k6 (AHeap → Nat)), I x2 x4 x9 x11 H ∧ ∀ y2 y4 y9 y11 G, I y2 y4 y9 y11 G → B35 P (fun z2 z4 z9 z11 G' => I z2 z4 z9 z11 G' ∧ μ z2 z4 z9 z11 G' < μ y2 y4 y9 y11 G) y2 y4 y9 y11 G
theorem l31 (P : PT) : LQ k6 (L31 P) (B35 P) := fun ⟨_,_,_,_,_⟩ _ ⟨I, μ, h0, hI⟩ => ⟨apT _ I, apT _ μ, h0, fun ⟨_,_,_,_,_⟩ _ h => hI _ _ _ _ _  h⟩
abbrev k7 : Sk := [(2,.x),(4,.v),(9,.x)]
noncomputable def o36 := ob Try.f96 [.r,.r,.l,.r,.l,.r,.r,.r,.r,.r,.r,.r,.r,.r,.r,.r,.r,.r,.l,.r,.l,.l]
def B36 (P : PT) (x2 : Nat) (x4 : Value) (x9 : Nat) (H : AHeap) : Prop :=
  L31 P x2 x4 x9 0 H
theorem q36 (P : PT) : QB Try.prog T0 228 o36 (En 228 k6 (L31 P)) k7 (B36 P) := fun _ _ _ _ _  => by kernel_rfl
noncomputable def o37 := ob Try.f96 [.r,.r,.l,.r,.l,.r,.r,.r,.r,.r,.r,.r,.r,.r,.r,.r,.r,.r,.l,.l]
def B37 (P : PT) (x2 : Nat) (x4 : Value) (H : AHeap) : Prop :=
  AC Try.prog T0 96 [(Value.string (⟨#[112, 101, 116, 101, 114, 115, 101, 110]⟩))] H (fun v1 H2 => tup2 v1 (fun v3 v4 => agg2 v3 (fun v5 v6 => asI .i64 v5 (fun v7 => asB v4 (fun v9 => newK H2 [(Value.int .i64 0), (Value.slice none 0 0)] 31 (fun b10 H11 => stK H11 b10 0 [(Value.int .i64 v7), v6] (fun H12 => B36 P x2 x4 b10 H12)))))))
theorem q37 (P : PT) : QB Try.prog T0 228 o37 (En 228 k7 (B36 P)) k1 (B37 P) := fun _ _ _ _  => by kernel_rfl
noncomputable def o38 := ob Try.f96 [.r,.r,.l,.r,.l,.r,.r,.r,.r,.r,.r,.r,.r,.r,.r,.r,.r,.r,.r,.r,.l,.r,.r,.l]
def B38 (P : PT) (x2 : Nat) (x4 : Value) (H : AHeap) : Prop :=
  newK H [(Value.int .i64 10), (Value.int .i64 11), (Value.int .i64 12), (Value.int .i64 13), (Value.int .i64 14), (Value.int .i64 15), (Value.int .i64 16), (Value.int .i64 17), (Value.int .i64 18), (Value.int .i64 19)] 2 (fun b1 H2 => AC Try.prog T0 147 [x4, (Value.slice (some ⟨b1, 0, none⟩) 10 (10 + 1))] H2 (fun v3 H4 => AC Try.prog T0 146 [(Value.int .i64 20), v3] H4 (fun v6 H7 => agg2 v6 (fun v8 v9 => asI .i64 v8 (fun v10 => stK H7 x2 0 [(Value.int .i64 v10), v9] (fun H12 => ldI .i64 H12 x2 0 (fun v13 => ld1 H12 x2 1 (fun v14 => P (Value.tuple ⟨[(Value.agg ⟨[(Value.int .i64 v13), v14]⟩), (Value.bool true)]⟩) H12))))))))
theorem q38 (P : PT) : QB Try.prog T0 228 o38 (ret P) k1 (B38 P) := fun _ _ _ _  => by kernel_rfl
noncomputable def o39 := ob Try.f96 [.r,.r,.l,.r,.l,.r,.r,.r,.r,.r,.r,.r,.r,.r,.r,.r,.r,.r,.r,.r,.l,.r,.l]
def B39 (P : PT) (x2 : Nat) (x4 : Value) (H : AHeap) : Prop :=
  newK H [(Value.int .i64 5), (Value.int .i64 6), (Value.int .i64 7), (Value.int .i64 8), (Value.int .i64 9)] 2 (fun b1 H2 => AC Try.prog T0 147 [x4, (Value.slice (some ⟨b1, 0, none⟩) 5 (5 + 1))] H2 (fun v3 H4 => B38 P x2 v3 H4))
theorem q39 (P : PT) : QB Try.prog T0 228 o39 (En 228 k1 (B38 P)) k1 (B39 P) := fun _ _ _ _  => by kernel_rfl
abbrev k8 : Sk := [(2,.x),(4,.v),(12,.i .i64)]
noncomputable def o41 := ob Try.f96 [.r,.r,.l,.r,.l,.r,.r,.r,.r,.r,.r,.r,.r,.r,.r,.r,.r,.r,.r,.r,.l,.l,.r,.l,.l,.r,.r]
def B41 (P : PT) (N40 : NTy k8 Pr) (x2 : Nat) (x4 : Value) (x12 : Int) (H : AHeap) : Prop :=
  N40 x2 x4 (IntKind.i64.wrap (x12 + 1)) H
theorem q41 (P : PT) (N40 : NTy k8 Pr) : QB Try.prog T0 228 o41 (En 228 k8 N40) k8 (B41 P N40) := fun _ _ _ _ _  => by kernel_rfl
noncomputable def o42 := ob Try.f96 [.r,.r,.l,.r,.l,.r,.r,.r,.r,.r,.r,.r,.r,.r,.r,.r,.r,.r,.r,.r,.l,.l,.r,.l,.l,.r,.l,.l]
def B42 (P : PT) (N40 : NTy k8 Pr) (x2 : Nat) (x4 : Value) (x12 : Int) (H : AHeap) : Prop :=
  newK H [(Value.int .i64 x12), (Value.int .i64 (IntKind.i64.wrap (x12 + 5))), (Value.int .i64 x12), (Value.int .i64 (IntKind.i64.wrap (x12 + 10))), (Value.int .i64 x12), (Value.int .i64 (IntKind.i64.wrap (x12 + 15)))] 67 (fun b1 H2 => apK T0 67 H2 x4 (Value.slice (some ⟨b1, 0, none⟩) 3 (3 + 1)) (fun v3 H4 => B41 P N40 x2 v3 x12 H4))
theorem q42 (P : PT) (N40 : NTy k8 Pr) : QB Try.prog T0 228 o42 (En 228 k8 (B41 P N40)) k8 (B42 P N40) := fun _ _ _ _ _  => by kernel_rfl
noncomputable def o43 := ob Try.f96 [.r,.r,.l,.r,.l,.r,.r,.r,.r,.r,.r,.r,.r,.r,.r,.r,.r,.r,.r,.r,.l,.l,.r,.l,.l,.l,.l]
def B43 (P : PT) (N40 : NTy k8 Pr) (x2 : Nat) (x4 : Value) (x12 : Int) (H : AHeap) : Prop :=
  pif (decide ((x12 : Int) < 5)) (B42 P N40 x2 x4 x12 H) (B39 P x2 x4 H)
theorem q43 (P : PT) (N40 : NTy k8 Pr) : QB Try.prog T0 228 o43 (cnd 156 (En 228 k8 (B42 P N40)) (En 228 k1 (B39 P))) k8 (B43 P N40) := fun _ _ _ _ _  => by kernel_rfl
def L40 (P : PT) (x2 : Nat) (x4 : Value) (x12 : Int) (H : AHeap) : Prop :=
  ∃ (I : NTy k8 Pr) (μ : NTy k8 (AHeap → Nat)), I x2 x4 x12 H ∧ ∀ y2 y4 y12 G, I y2 y4 y12 G → B43 P (fun z2 z4 z12 G' => I z2 z4 z12 G' ∧ μ z2 z4 z12 G' < μ y2 y4 y12 G) y2 y4 y12 G
theorem l40 (P : PT) : LQ k8 (L40 P) (B43 P) := fun ⟨_,_,_,_⟩ _ ⟨I, μ, h0, hI⟩ => ⟨apT _ I, apT _ μ, h0, fun ⟨_,_,_,_⟩ _ h => hI _ _ _ _  h⟩
noncomputable def o44 := ob Try.f96 [.r,.r,.l,.r,.l,.r,.r,.r,.r,.r,.r,.r,.r,.r,.r,.r,.r,.r,.r,.r,.l,.l,.l]
def B44 (P : PT) (x2 : Nat) (x4 : Value) (H : AHeap) : Prop :=
  L40 P x2 x4 0 H
theorem q44 (P : PT) : QB Try.prog T0 228 o44 (En 228 k8 (L40 P)) k1 (B44 P) := fun _ _ _ _  => by kernel_rfl
noncomputable def o45 := ob Try.f96 [.r,.r,.l,.r,.l,.r,.r,.r,.r,.r,.r,.r,.r,.r,.r,.r,.r,.r,.r,.r,.r,.r,.l,.r,.l]
def B45 (P : PT) (x2 : Nat) (x4 : Value) (H : AHeap) : Prop :=
  newK H [(Value.int .i64 4), (Value.int .i64 9)] 67 (fun b1 H2 => apK T0 67 H2 x4 (Value.slice (some ⟨b1, 0, none⟩) 1 (1 + 1)) (fun v3 H4 => AC Try.prog T0 146 [(Value.int .i64 10), v3] H4 (fun v5 H6 => agg2 v5 (fun v7 v8 => asI .i64 v7 (fun v9 => stK H6 x2 0 [(Value.int .i64 v9), v8] (fun H11 => ldI .i64 H11 x2 0 (fun v12 => ld1 H11 x2 1 (fun v13 => P (Value.tuple ⟨[(Value.agg ⟨[(Value.int .i64 v12), v13]⟩), (Value.bool true)]⟩) H11))))))))
theorem q45 (P : PT) : QB Try.prog T0 228 o45 (ret P) k1 (B45 P) := fun _ _ _ _  => by kernel_rfl
abbrev k9 : Sk := [(2,.x),(4,.v),(13,.i .i64)]
noncomputable def o47 := ob Try.f96 [.r,.r,.l,.r,.l,.r,.r,.r,.r,.r,.r,.r,.r,.r,.r,.r,.r,.r,.r,.r,.r,.r,.l,.l,.r,.l,.l,.r,.r]
def B47 (P : PT) (N46 : NTy k9 Pr) (x2 : Nat) (x4 : Value) (x13 : Int) (H : AHeap) : Prop :=
  N46 x2 x4 (IntKind.i64.wrap (x13 + 5)) H
theorem q47 (P : PT) (N46 : NTy k9 Pr) : QB Try.prog T0 228 o47 (En 228 k9 N46) k9 (B47 P N46) := fun _ _ _ _ _  => by kernel_rfl
noncomputable def o48 := ob Try.f96 [.r,.r,.l,.r,.l,.r,.r,.r,.r,.r,.r,.r,.r,.r,.r,.r,.r,.r,.r,.r,.r,.r,.l,.l,.r,.l,.l,.r,.l,.l]
def B48 (P : PT) (N46 : NTy k9 Pr) (x2 : Nat) (x4 : Value) (x13 : Int) (H : AHeap) : Prop :=
  newK H [(Value.int .i64 x13), (Value.int .i64 (IntKind.i64.wrap (x13 + 2))), (Value.int .i64 x13), (Value.int .i64 (IntKind.i64.wrap (x13 + 3))), (Value.int .i64 (IntKind.i64.wrap (x13 + 1))), (Value.int .i64 (IntKind.i64.wrap (x13 + 2))), (Value.int .i64 (IntKind.i64.wrap (x13 + 1))), (Value.int .i64 (IntKind.i64.wrap (x13 + 3))), (Value.int .i64 (IntKind.i64.wrap (x13 + 2))), (Value.int .i64 (IntKind.i64.wrap (x13 + 3))), (Value.int .i64 x13), (Value.int .i64 (IntKind.i64.wrap (x13 + 4))), (Value.int .i64 (IntKind.i64.wrap (x13 + 1))), (Value.int .i64 (IntKind.i64.wrap (x13 + 4)))] 67 (fun b1 H2 => apK T0 67 H2 x4 (Value.slice (some ⟨b1, 0, none⟩) 7 (7 + 1)) (fun v3 H4 => B47 P N46 x2 v3 x13 H4))
theorem q48 (P : PT) (N46 : NTy k9 Pr) : QB Try.prog T0 228 o48 (En 228 k9 (B47 P N46)) k9 (B48 P N46) := fun _ _ _ _ _  => by kernel_rfl
noncomputable def o49 := ob Try.f96 [.r,.r,.l,.r,.l,.r,.r,.r,.r,.r,.r,.r,.r,.r,.r,.r,.r,.r,.r,.r,.r,.r,.l,.l,.r,.l,.l,.l,.l]
def B49 (P : PT) (N46 : NTy k9 Pr) (x2 : Nat) (x4 : Value) (x13 : Int) (H : AHeap) : Prop :=
  pif (decide ((x13 : Int) ≤ 5)) (B48 P N46 x2 x4 x13 H) (B45 P x2 x4 H)
theorem q49 (P : PT) (N46 : NTy k9 Pr) : QB Try.prog T0 228 o49 (cnd 184 (En 228 k9 (B48 P N46)) (En 228 k1 (B45 P))) k9 (B49 P N46) := fun _ _ _ _ _  => by kernel_rfl
def L46 (P : PT) (x2 : Nat) (x4 : Value) (x13 : Int) (H : AHeap) : Prop :=
  ∃ (I : NTy k9 Pr) (μ : NTy k9 (AHeap → Nat)), I x2 x4 x13 H ∧ ∀ y2 y4 y13 G, I y2 y4 y13 G → B49 P (fun z2 z4 z13 G' => I z2 z4 z13 G' ∧ μ z2 z4 z13 G' < μ y2 y4 y13 G) y2 y4 y13 G
theorem l46 (P : PT) : LQ k9 (L46 P) (B49 P) := fun ⟨_,_,_,_⟩ _ ⟨I, μ, h0, hI⟩ => ⟨apT _ I, apT _ μ, h0, fun ⟨_,_,_,_⟩ _ h => hI _ _ _ _  h⟩
noncomputable def o50 := ob Try.f96 [.r,.r,.l,.r,.l,.r,.r,.r,.r,.r,.r,.r,.r,.r,.r,.r,.r,.r,.r,.r,.r,.r,.l,.l,.l]
def B50 (P : PT) (x2 : Nat) (x4 : Value) (H : AHeap) : Prop :=
  L46 P x2 x4 0 H
theorem q50 (P : PT) : QB Try.prog T0 228 o50 (En 228 k9 (L46 P)) k1 (B50 P) := fun _ _ _ _  => by kernel_rfl
abbrev k10 : Sk := [(2,.x),(4,.v),(15,.s)]
noncomputable def o51 := ob Try.f96 [.r,.r,.l,.r,.l,.r,.r,.r,.r,.r,.r,.r,.r,.r,.r,.r,.r,.r,.r,.r,.r,.l]
def B51 (P : PT) (x2 : Nat) (x4 : Value) (x15 : ByteArray) (H : AHeap) : Prop :=
  pif (ByteArray.toList x15 == ByteArray.toList (⟨#[98, 114, 105, 100, 103, 101]⟩)) (B50 P x2 x4 H) (B1 P x2 H)
theorem q51 (P : PT) : QB Try.prog T0 228 o51 (cnd 181 (En 228 k1 (B50 P)) (En 228 k0 (B1 P))) k10 (B51 P) := fun _ _ _ _ _  => by kernel_rfl
noncomputable def o52 := ob Try.f96 [.r,.r,.l,.r,.l,.r,.r,.r,.r,.r,.r,.r,.r,.r,.r,.r,.r,.r,.r,.l]
def B52 (P : PT) (x2 : Nat) (x4 : Value) (x15 : ByteArray) (H : AHeap) : Prop :=
  pif (ByteArray.toList x15 == ByteArray.toList (⟨#[102, 108, 111, 119, 101, 114, 53]⟩)) (B44 P x2 x4 H) (B51 P x2 x4 x15 H)
theorem q52 (P : PT) : QB Try.prog T0 228 o52 (cnd 153 (En 228 k1 (B44 P)) (En 228 k10 (B51 P))) k10 (B52 P) := fun _ _ _ _ _  => by kernel_rfl
noncomputable def o53 := ob Try.f96 [.r,.r,.l,.r,.l,.r,.r,.r,.r,.r,.r,.r,.r,.r,.r,.r,.r,.l]
def B53 (P : PT) (x2 : Nat) (x4 : Value) (x15 : ByteArray) (H : AHeap) : Prop :=
  pif (ByteArray.toList x15 == ByteArray.toList (⟨#[116, 105, 101, 116, 122, 101]⟩)) (B37 P x2 x4 H) (B52 P x2 x4 x15 H)
theorem q53 (P : PT) : QB Try.prog T0 228 o53 (cnd 115 (En 228 k1 (B37 P)) (En 228 k10 (B52 P))) k10 (B53 P) := fun _ _ _ _ _  => by kernel_rfl
noncomputable def o54 := ob Try.f96 [.r,.r,.l,.r,.l,.r,.r,.r,.r,.r,.r,.r,.r,.r,.r,.l]
def B54 (P : PT) (x2 : Nat) (x4 : Value) (x15 : ByteArray) (H : AHeap) : Prop :=
  pif (ByteArray.toList x15 == ByteArray.toList (⟨#[112, 101, 116, 101, 114, 115, 101, 110]⟩)) (B28 P x2 x4 H) (B53 P x2 x4 x15 H)
theorem q54 (P : PT) : QB Try.prog T0 228 o54 (cnd 88 (En 228 k1 (B28 P)) (En 228 k10 (B53 P))) k10 (B54 P) := fun _ _ _ _ _  => by kernel_rfl
noncomputable def o55 := ob Try.f96 [.r,.r,.l,.r,.l,.r,.r,.r,.r,.r,.r,.r,.r,.l]
def B55 (P : PT) (x2 : Nat) (x4 : Value) (x15 : ByteArray) (H : AHeap) : Prop :=
  pif (ByteArray.toList x15 == ByteArray.toList (⟨#[99, 117, 98, 101]⟩)) (B22 P x2 x4 H) (B54 P x2 x4 x15 H)
theorem q55 (P : PT) : QB Try.prog T0 228 o55 (cnd 64 (En 228 k1 (B22 P)) (En 228 k10 (B54 P))) k10 (B55 P) := fun _ _ _ _ _  => by kernel_rfl
noncomputable def o56 := ob Try.f96 [.r,.r,.l,.r,.l,.r,.r,.r,.r,.r,.r,.l]
def B56 (P : PT) (x2 : Nat) (x4 : Value) (x15 : ByteArray) (H : AHeap) : Prop :=
  pif (ByteArray.toList x15 == ByteArray.toList (⟨#[112, 114, 105, 115, 109]⟩)) (B11 P x2 x4 H) (B55 P x2 x4 x15 H)
theorem q56 (P : PT) : QB Try.prog T0 228 o56 (cnd 50 (En 228 k1 (B11 P)) (En 228 k10 (B55 P))) k10 (B56 P) := fun _ _ _ _ _  => by kernel_rfl
noncomputable def o57 := ob Try.f96 [.r,.r,.l,.r,.l,.r,.r,.r,.r,.l]
def B57 (P : PT) (x2 : Nat) (x4 : Value) (x15 : ByteArray) (H : AHeap) : Prop :=
  pif (ByteArray.toList x15 == ByteArray.toList (⟨#[107, 51, 51]⟩)) (B9 P x2 x4 H) (B56 P x2 x4 x15 H)
theorem q57 (P : PT) : QB Try.prog T0 228 o57 (cnd 33 (En 228 k1 (B9 P)) (En 228 k10 (B56 P))) k10 (B57 P) := fun _ _ _ _ _  => by kernel_rfl
noncomputable def o58 := ob Try.f96 [.r,.r,.l,.r,.l,.r,.r,.l]
def B58 (P : PT) (x2 : Nat) (x4 : Value) (x15 : ByteArray) (H : AHeap) : Prop :=
  pif (ByteArray.toList x15 == ByteArray.toList (⟨#[107, 52]⟩)) (B3 P x2 H) (B57 P x2 x4 x15 H)
theorem q58 (P : PT) : QB Try.prog T0 228 o58 (cnd 23 (En 228 k0 (B3 P)) (En 228 k10 (B57 P))) k10 (B58 P) := fun _ _ _ _ _  => by kernel_rfl
noncomputable def o59 := ob Try.f96 [.r,.r,.l,.r,.l,.l]
def B59 (P : PT) (x2 : Nat) (x4 : Value) (x15 : ByteArray) (H : AHeap) : Prop :=
  pif (ByteArray.toList x15 == ByteArray.toList (⟨#[116, 104, 101, 116, 97]⟩)) (B2 P x2 H) (B58 P x2 x4 x15 H)
theorem q59 (P : PT) : QB Try.prog T0 228 o59 (cnd 16 (En 228 k0 (B2 P)) (En 228 k10 (B58 P))) k10 (B59 P) := fun _ _ _ _ _  => by kernel_rfl
abbrev k11 : Sk := [(0,.s),(2,.x),(4,.v)]
noncomputable def o60 := ob Try.f96 [.r,.r,.l,.l]
def B60 (P : PT) (x0 : ByteArray) (x2 : Nat) (x4 : Value) (H : AHeap) : Prop :=
  B59 P x2 x4 x0 H
theorem q60 (P : PT) : QB Try.prog T0 228 o60 (En 228 k10 (B59 P)) k11 (B60 P) := fun _ _ _ _ _  => by kernel_rfl
abbrev k12 : Sk := [(0,.s),(2,.x)]
noncomputable def o61 := ob Try.f96 [.r,.l]
def B61 (P : PT) (x0 : ByteArray) (x2 : Nat) (H : AHeap) : Prop :=
  newK H [] 67 (fun b1 H2 => B60 P x0 x2 (Value.slice (some ⟨b1, 0, none⟩) 0 (0 + 1)) H2)
theorem q61 (P : PT) : QB Try.prog T0 228 o61 (En 228 k11 (B60 P)) k12 (B61 P) := fun _ _ _ _  => by kernel_rfl
abbrev k13 : Sk := [(0,.s)]
noncomputable def o62 := ob Try.f96 [.l]
def B62 (P : PT) (x0 : ByteArray) (H : AHeap) : Prop :=
  newK H [(Value.int .i64 0), (Value.slice none 0 0)] 31 (fun b1 H2 => B61 P x0 b1 H2)
theorem q62 (P : PT) : QB Try.prog T0 228 o62 (En 228 k12 (B61 P)) k13 (B62 P) := fun _ _ _  => by kernel_rfl
noncomputable def code : Code := (.seq (.region 0 ⟨o62⟩ false) (.seq (.region 1 ⟨o61⟩ false) (.seq (.seq (.region 2 ⟨o60⟩ false) (.block 0 (.seq (.region 3 ⟨o59⟩ false) (.cond (.tmp 16) (.seq (.region 4 ⟨o2⟩ false) .ret) (.seq (.region 5 ⟨o58⟩ false) (.cond (.tmp 23) (.seq (.region 6 ⟨o3⟩ false) .ret) (.seq (.region 7 ⟨o57⟩ false) (.cond (.tmp 33) (.seq (.seq (.region 8 ⟨o9⟩ false) (.block 1 (.loop (.seq (.seq (.region 9 ⟨o8⟩ false) (.cond (.tmp 36) .skip (.exit 1))) (.seq (.block 2 (.region 11 ⟨o7⟩ false)) (.region 10 ⟨o6⟩ false)))))) (.seq (.region 12 ⟨o4⟩ false) .ret)) (.seq (.region 13 ⟨o56⟩ false) (.cond (.tmp 50) (.seq (.region 14 ⟨o11⟩ false) (.seq (.region 15 ⟨o10⟩ false) .ret)) (.seq (.region 16 ⟨o55⟩ false) (.cond (.tmp 64) (.seq (.seq (.region 17 ⟨o22⟩ false) (.block 3 (.loop (.seq (.seq (.region 18 ⟨o21⟩ false) (.cond (.tmp 67) .skip (.exit 3))) (.seq (.block 4 (.seq (.region 20 ⟨o20⟩ false) (.block 5 (.loop (.seq (.seq (.region 21 ⟨o19⟩ false) (.cond (.tmp 71) .skip (.exit 5))) (.seq (.block 6 (.seq (.region 23 ⟨o18⟩ false) (.cond (.tmp 77) (.region 24 ⟨o17⟩ false) .skip))) (.region 22 ⟨o16⟩ false))))))) (.region 19 ⟨o14⟩ false)))))) (.seq (.region 25 ⟨o12⟩ false) .ret)) (.seq (.region 26 ⟨o54⟩ false) (.cond (.tmp 88) (.seq (.seq (.region 27 ⟨o28⟩ false) (.block 7 (.loop (.seq (.seq (.region 28 ⟨o27⟩ false) (.cond (.tmp 91) .skip (.exit 7))) (.seq (.block 8 (.region 30 ⟨o26⟩ false)) (.region 29 ⟨o25⟩ false)))))) (.seq (.region 31 ⟨o23⟩ false) .ret)) (.seq (.region 32 ⟨o53⟩ false) (.cond (.tmp 115) (.seq (.region 33 ⟨o37⟩ false) (.seq (.seq (.region 34 ⟨o36⟩ false) (.block 9 (.loop (.seq (.seq (.region 35 ⟨o35⟩ false) (.cond (.tmp 125) .skip (.exit 9))) (.seq (.block 10 (.seq (.region 37 ⟨o34⟩ false) (.cond (.tmp 134) (.region 38 ⟨o33⟩ false) .skip))) (.region 36 ⟨o32⟩ false)))))) (.seq (.region 39 ⟨o30⟩ false) (.seq (.region 40 ⟨o29⟩ false) .ret)))) (.seq (.region 41 ⟨o52⟩ false) (.cond (.tmp 153) (.seq (.seq (.region 42 ⟨o44⟩ false) (.block 11 (.loop (.seq (.seq (.region 43 ⟨o43⟩ false) (.cond (.tmp 156) .skip (.exit 11))) (.seq (.block 12 (.region 45 ⟨o42⟩ false)) (.region 44 ⟨o41⟩ false)))))) (.seq (.region 46 ⟨o39⟩ false) (.seq (.region 47 ⟨o38⟩ false) .ret))) (.seq (.region 48 ⟨o51⟩ false) (.cond (.tmp 181) (.seq (.seq (.region 49 ⟨o50⟩ false) (.block 13 (.loop (.seq (.seq (.region 50 ⟨o49⟩ false) (.cond (.tmp 184) .skip (.exit 13))) (.seq (.block 14 (.region 52 ⟨o48⟩ false)) (.region 51 ⟨o47⟩ false)))))) (.seq (.region 53 ⟨o45⟩ false) .ret)) .skip)))))))))))))))))))) (.seq (.region 54 ⟨o1⟩ false) .ret))))
theorem body : Try.f96.body = some code := by kernel_rfl
theorem main (P : PT) : ∀ env H, (En 228 k13 (B62 P)) env H → AW Try.prog T0 code env H (mkQ (ret P) (fun _ _ _ => False) (ret P)) :=
  (r_seq (rB T0_ok (q62 P)) (r_seq (rB T0_ok (q61 P)) (r_seq (r_seq (rB T0_ok (q60 P)) (r_block (r_seq (rB T0_ok (q59 P)) (r_cond rfl (r_seq (rB T0_ok (q2 P)) r_ret) (r_seq (rB T0_ok (q58 P)) (r_cond rfl (r_seq (rB T0_ok (q3 P)) r_ret) (r_seq (rB T0_ok (q57 P)) (r_cond rfl (r_seq (r_seq (rB T0_ok (q9 P)) (r_block (rL (l5 P) (fun N5 => (r_seq (r_seq (rB T0_ok (q8 P N5)) (r_cond rfl r_skip (r_exit (fun _ _ h => h)))) (r_seq (r_block (rB T0_ok (q7 P N5))) (rB T0_ok (q6 P N5)))))))) (r_seq (rB T0_ok (q4 P)) r_ret)) (r_seq (rB T0_ok (q56 P)) (r_cond rfl (r_seq (rB T0_ok (q11 P)) (r_seq (rB T0_ok (q10 P)) r_ret)) (r_seq (rB T0_ok (q55 P)) (r_cond rfl (r_seq (r_seq (rB T0_ok (q22 P)) (r_block (rL (l13 P) (fun N13 => (r_seq (r_seq (rB T0_ok (q21 P N13)) (r_cond rfl r_skip (r_exit (fun _ _ h => h)))) (r_seq (r_block (r_seq (rB T0_ok (q20 P N13)) (r_block (rL (l15 P N13) (fun N15 => (r_seq (r_seq (rB T0_ok (q19 P N13 N15)) (r_cond rfl r_skip (r_exit (fun _ _ h => h)))) (r_seq (r_block (r_seq (rB T0_ok (q18 P N13 N15)) (r_cond rfl (rB T0_ok (q17 P N13 N15)) r_skip))) (rB T0_ok (q16 P N13 N15))))))))) (rB T0_ok (q14 P N13)))))))) (r_seq (rB T0_ok (q12 P)) r_ret)) (r_seq (rB T0_ok (q54 P)) (r_cond rfl (r_seq (r_seq (rB T0_ok (q28 P)) (r_block (rL (l24 P) (fun N24 => (r_seq (r_seq (rB T0_ok (q27 P N24)) (r_cond rfl r_skip (r_exit (fun _ _ h => h)))) (r_seq (r_block (rB T0_ok (q26 P N24))) (rB T0_ok (q25 P N24)))))))) (r_seq (rB T0_ok (q23 P)) r_ret)) (r_seq (rB T0_ok (q53 P)) (r_cond rfl (r_seq (rB T0_ok (q37 P)) (r_seq (r_seq (rB T0_ok (q36 P)) (r_block (rL (l31 P) (fun N31 => (r_seq (r_seq (rB T0_ok (q35 P N31)) (r_cond rfl r_skip (r_exit (fun _ _ h => h)))) (r_seq (r_block (r_seq (rB T0_ok (q34 P N31)) (r_cond rfl (rB T0_ok (q33 P N31)) r_skip))) (rB T0_ok (q32 P N31)))))))) (r_seq (rB T0_ok (q30 P)) (r_seq (rB T0_ok (q29 P)) r_ret)))) (r_seq (rB T0_ok (q52 P)) (r_cond rfl (r_seq (r_seq (rB T0_ok (q44 P)) (r_block (rL (l40 P) (fun N40 => (r_seq (r_seq (rB T0_ok (q43 P N40)) (r_cond rfl r_skip (r_exit (fun _ _ h => h)))) (r_seq (r_block (rB T0_ok (q42 P N40))) (rB T0_ok (q41 P N40)))))))) (r_seq (rB T0_ok (q39 P)) (r_seq (rB T0_ok (q38 P)) r_ret))) (r_seq (rB T0_ok (q51 P)) (r_cond rfl (r_seq (r_seq (rB T0_ok (q50 P)) (r_block (rL (l46 P) (fun N46 => (r_seq (r_seq (rB T0_ok (q49 P N46)) (r_cond rfl r_skip (r_exit (fun _ _ h => h)))) (r_seq (r_block (rB T0_ok (q48 P N46))) (rB T0_ok (q47 P N46)))))))) (r_seq (rB T0_ok (q45 P)) r_ret)) r_skip)))))))))))))))))))) (r_seq (rB T0_ok (q1 P)) r_ret))))
theorem ac (P : PT) (x0 : ByteArray) (H : AHeap) (h : B62 P x0 H) : AC Try.prog T0 96 [(Value.string x0)] H P :=
  r_fn T0_ok (c := code) (n := 228) Try.func96 body (by kernel_rfl) (main P) (En_mk (x0, ()) (by kernel_rfl) ⟨by kernel_rfl, trivial⟩ h)

end F96
-- loop.example/g01329/spec.l11Fresh
namespace F97
noncomputable def ret (P : PT) : EP := retE T0 13 Try.f97 P
abbrev k0 : Sk := [(1,.x),(2,.x)]
noncomputable def o1 := ob Try.f97 [.r,.l]
def B1 (P : PT) (x1 x2 : Nat) (H : AHeap) : Prop :=
  ldI .i64 H x1 0 (fun v1 => ld1 H x1 1 (fun v2 => (newK H [] 67 (fun b3 H4 => (apK T0 67 H4 (Value.slice (some ⟨b3, 0, none⟩) 0 (0 + 1)) v2 (fun v5 H6 => (ldI .i64 H6 x1 0 (fun v7 => ((Value.int .i64 v7) = (Value.int .i64 v1)) ∧ (H6 = H6))) ∧ (pif (Value.oneCell' v5) ((newK H6 [] 2 (fun b8 H9 => newK H9 [] 2 (fun b10 H11 => stK H11 x2 0 [(Value.int .i64 v1), v5, (Value.slice (some ⟨b8, 0, none⟩) 0 (0 + 1)), (Value.slice (some ⟨b10, 0, none⟩) 0 (0 + 1))] (fun H12 => ldI .i64 H12 x2 0 (fun v13 => ld1 H12 x2 1 (fun v14 => ld1 H12 x2 2 (fun v15 => ld1 H12 x2 3 (fun v16 => P (Value.agg ⟨[(Value.int .i64 v13), v14, v15, v16]⟩) H12)))))))) ∧ (newK H6 [] 2 (fun b17 H18 => newK H18 [] 2 (fun b19 H20 => stK H20 x2 0 [(Value.int .i64 v1), v5, (Value.slice (some ⟨b19, 0, none⟩) 0 (0 + 1)), (Value.slice (some ⟨b17, 0, none⟩) 0 (0 + 1))] (fun H21 => ldI .i64 H21 x2 0 (fun v22 => ld1 H21 x2 1 (fun v23 => ld1 H21 x2 2 (fun v24 => ld1 H21 x2 3 (fun v25 => P (Value.agg ⟨[(Value.int .i64 v22), v23, v24, v25]⟩) H21))))))))) False))) ∧ ((newK H4 [] 2 (fun b26 H27 => (apK T0 67 H27 (Value.slice (some ⟨b3, 0, none⟩) 0 (0 + 1)) v2 (fun v28 H29 => (ldI .i64 H29 x1 0 (fun v30 => ((Value.int .i64 v30) = (Value.int .i64 v1)) ∧ (H29 = H29))) ∧ (pif (Value.oneCell' v28) (newK H29 [] 2 (fun b31 H32 => stK H32 x2 0 [(Value.int .i64 v1), v28, (Value.slice (some ⟨b26, 0, none⟩) 0 (0 + 1)), (Value.slice (some ⟨b31, 0, none⟩) 0 (0 + 1))] (fun H33 => ldI .i64 H33 x2 0 (fun v34 => ld1 H33 x2 1 (fun v35 => ld1 H33 x2 2 (fun v36 => ld1 H33 x2 3 (fun v37 => P (Value.agg ⟨[(Value.int .i64 v34), v35, v36, v37]⟩) H33))))))) False))) ∧ (newK H27 [] 2 (fun b38 H39 => apK T0 67 H39 (Value.slice (some ⟨b3, 0, none⟩) 0 (0 + 1)) v2 (fun v40 H41 => (ldI .i64 H41 x1 0 (fun v42 => ((Value.int .i64 v42) = (Value.int .i64 v1)) ∧ (H41 = H41))) ∧ (pif (Value.oneCell' v40) (stK H41 x2 0 [(Value.int .i64 v1), v40, (Value.slice (some ⟨b26, 0, none⟩) 0 (0 + 1)), (Value.slice (some ⟨b38, 0, none⟩) 0 (0 + 1))] (fun H43 => ldI .i64 H43 x2 0 (fun v44 => ld1 H43 x2 1 (fun v45 => ld1 H43 x2 2 (fun v46 => ld1 H43 x2 3 (fun v47 => P (Value.agg ⟨[(Value.int .i64 v44), v45, v46, v47]⟩) H43)))))) False)))))) ∧ (newK H4 [] 2 (fun b48 H49 => (apK T0 67 H49 (Value.slice (some ⟨b3, 0, none⟩) 0 (0 + 1)) v2 (fun v50 H51 => (ldI .i64 H51 x1 0 (fun v52 => ((Value.int .i64 v52) = (Value.int .i64 v1)) ∧ (H51 = H51))) ∧ (pif (Value.oneCell' v50) (newK H51 [] 2 (fun b53 H54 => stK H54 x2 0 [(Value.int .i64 v1), v50, (Value.slice (some ⟨b53, 0, none⟩) 0 (0 + 1)), (Value.slice (some ⟨b48, 0, none⟩) 0 (0 + 1))] (fun H55 => ldI .i64 H55 x2 0 (fun v56 => ld1 H55 x2 1 (fun v57 => ld1 H55 x2 2 (fun v58 => ld1 H55 x2 3 (fun v59 => P (Value.agg ⟨[(Value.int .i64 v56), v57, v58, v59]⟩) H55))))))) False))) ∧ (newK H49 [] 2 (fun b60 H61 => apK T0 67 H61 (Value.slice (some ⟨b3, 0, none⟩) 0 (0 + 1)) v2 (fun v62 H63 => (ldI .i64 H63 x1 0 (fun v64 => ((Value.int .i64 v64) = (Value.int .i64 v1)) ∧ (H63 = H63))) ∧ (pif (Value.oneCell' v62) (stK H63 x2 0 [(Value.int .i64 v1), v62, (Value.slice (some ⟨b60, 0, none⟩) 0 (0 + 1)), (Value.slice (some ⟨b48, 0, none⟩) 0 (0 + 1))] (fun H65 => ldI .i64 H65 x2 0 (fun v66 => ld1 H65 x2 1 (fun v67 => ld1 H65 x2 2 (fun v68 => ld1 H65 x2 3 (fun v69 => P (Value.agg ⟨[(Value.int .i64 v66), v67, v68, v69]⟩) H65)))))) False))))))))) ∧ ((newK H [] 2 (fun b70 H71 => (newK H71 [] 67 (fun b72 H73 => (apK T0 67 H73 (Value.slice (some ⟨b72, 0, none⟩) 0 (0 + 1)) v2 (fun v74 H75 => (ldI .i64 H75 x1 0 (fun v76 => ((Value.int .i64 v76) = (Value.int .i64 v1)) ∧ (H75 = H75))) ∧ (pif (Value.oneCell' v74) (newK H75 [] 2 (fun b77 H78 => stK H78 x2 0 [(Value.int .i64 v1), v74, (Value.slice (some ⟨b70, 0, none⟩) 0 (0 + 1)), (Value.slice (some ⟨b77, 0, none⟩) 0 (0 + 1))] (fun H79 => ldI .i64 H79 x2 0 (fun v80 => ld1 H79 x2 1 (fun v81 => ld1 H79 x2 2 (fun v82 => ld1 H79 x2 3 (fun v83 => P (Value.agg ⟨[(Value.int .i64 v80), v81, v82, v83]⟩) H79))))))) False))) ∧ (newK H73 [] 2 (fun b84 H85 => apK T0 67 H85 (Value.slice (some ⟨b72, 0, none⟩) 0 (0 + 1)) v2 (fun v86 H87 => (ldI .i64 H87 x1 0 (fun v88 => ((Value.int .i64 v88) = (Value.int .i64 v1)) ∧ (H87 = H87))) ∧ (pif (Value.oneCell' v86) (stK H87 x2 0 [(Value.int .i64 v1), v86, (Value.slice (some ⟨b70, 0, none⟩) 0 (0 + 1)), (Value.slice (some ⟨b84, 0, none⟩) 0 (0 + 1))] (fun H89 => ldI .i64 H89 x2 0 (fun v90 => ld1 H89 x2 1 (fun v91 => ld1 H89 x2 2 (fun v92 => ld1 H89 x2 3 (fun v93 => P (Value.agg ⟨[(Value.int .i64 v90), v91, v92, v93]⟩) H89)))))) False)))))) ∧ (newK H71 [] 2 (fun b94 H95 => newK H95 [] 67 (fun b96 H97 => apK T0 67 H97 (Value.slice (some ⟨b96, 0, none⟩) 0 (0 + 1)) v2 (fun v98 H99 => (ldI .i64 H99 x1 0 (fun v100 => ((Value.int .i64 v100) = (Value.int .i64 v1)) ∧ (H99 = H99))) ∧ (pif (Value.oneCell' v98) (stK H99 x2 0 [(Value.int .i64 v1), v98, (Value.slice (some ⟨b70, 0, none⟩) 0 (0 + 1)), (Value.slice (some ⟨b94, 0, none⟩) 0 (0 + 1))] (fun H101 => ldI .i64 H101 x2 0 (fun v102 => ld1 H101 x2 1 (fun v103 => ld1 H101 x2 2 (fun v104 => ld1 H101 x2 3 (fun v105 => P (Value.agg ⟨[(Value.int .i64 v102), v103, v104, v105]⟩) H101)))))) False))))))) ∧ (newK H [] 2 (fun b106 H107 => (newK H107 [] 67 (fun b108 H109 => (apK T0 67 H109 (Value.slice (some ⟨b108, 0, none⟩) 0 (0 + 1)) v2 (fun v110 H111 => (ldI .i64 H111 x1 0 (fun v112 => ((Value.int .i64 v112) = (Value.int .i64 v1)) ∧ (H111 = H111))) ∧ (pif (Value.oneCell' v110) (newK H111 [] 2 (fun b113 H114 => stK H114 x2 0 [(Value.int .i64 v1), v110, (Value.slice (some ⟨b113, 0, none⟩) 0 (0 + 1)), (Value.slice (some ⟨b106, 0, none⟩) 0 (0 + 1))] (fun H115 => ldI .i64 H115 x2 0 (fun v116 => ld1 H115 x2 1 (fun v117 => ld1 H115 x2 2 (fun v118 => ld1 H115 x2 3 (fun v119 => P (Value.agg ⟨[(Value.int .i64 v116), v117, v118, v119]⟩) H115))))))) False))) ∧ (newK H109 [] 2 (fun b120 H121 => apK T0 67 H121 (Value.slice (some ⟨b108, 0, none⟩) 0 (0 + 1)) v2 (fun v122 H123 => (ldI .i64 H123 x1 0 (fun v124 => ((Value.int .i64 v124) = (Value.int .i64 v1)) ∧ (H123 = H123))) ∧ (pif (Value.oneCell' v122) (stK H123 x2 0 [(Value.int .i64 v1), v122, (Value.slice (some ⟨b120, 0, none⟩) 0 (0 + 1)), (Value.slice (some ⟨b106, 0, none⟩) 0 (0 + 1))] (fun H125 => ldI .i64 H125 x2 0 (fun v126 => ld1 H125 x2 1 (fun v127 => ld1 H125 x2 2 (fun v128 => ld1 H125 x2 3 (fun v129 => P (Value.agg ⟨[(Value.int .i64 v126), v127, v128, v129]⟩) H125)))))) False)))))) ∧ (newK H107 [] 2 (fun b130 H131 => newK H131 [] 67 (fun b132 H133 => apK T0 67 H133 (Value.slice (some ⟨b132, 0, none⟩) 0 (0 + 1)) v2 (fun v134 H135 => (ldI .i64 H135 x1 0 (fun v136 => ((Value.int .i64 v136) = (Value.int .i64 v1)) ∧ (H135 = H135))) ∧ (pif (Value.oneCell' v134) (stK H135 x2 0 [(Value.int .i64 v1), v134, (Value.slice (some ⟨b130, 0, none⟩) 0 (0 + 1)), (Value.slice (some ⟨b106, 0, none⟩) 0 (0 + 1))] (fun H137 => ldI .i64 H137 x2 0 (fun v138 => ld1 H137 x2 1 (fun v139 => ld1 H137 x2 2 (fun v140 => ld1 H137 x2 3 (fun v141 => P (Value.agg ⟨[(Value.int .i64 v138), v139, v140, v141]⟩) H137)))))) False))))))))))
theorem q1 (P : PT) : QT Try.prog T0 13 o1 (.op 0 [] (.op 1 [] (.op 3 [] (.op 4 [] (.alt (.op 2 [] (.alt (.op 5 [1] (.op 6 [] (.alt (.op 7 [] (.op 8 [] (.op 9 [] (.op 10 [] .done)))) (.op 8 [] (.op 7 [] (.op 9 [] (.op 10 [] .done))))))) (.alt (.op 7 [] (.alt (.op 5 [1] (.op 6 [] (.op 8 [] (.op 9 [] (.op 10 [] .done))))) (.op 8 [] (.op 5 [1] (.op 6 [] (.op 9 [] (.op 10 [] .done))))))) (.op 8 [] (.alt (.op 5 [1] (.op 6 [] (.op 7 [] (.op 9 [] (.op 10 [] .done))))) (.op 7 [] (.op 5 [1] (.op 6 [] (.op 9 [] (.op 10 [] .done)))))))))) (.alt (.op 7 [] (.alt (.op 2 [] (.alt (.op 5 [1] (.op 6 [] (.op 8 [] (.op 9 [] (.op 10 [] .done))))) (.op 8 [] (.op 5 [1] (.op 6 [] (.op 9 [] (.op 10 [] .done))))))) (.op 8 [] (.op 2 [] (.op 5 [1] (.op 6 [] (.op 9 [] (.op 10 [] .done)))))))) (.op 8 [] (.alt (.op 2 [] (.alt (.op 5 [1] (.op 6 [] (.op 7 [] (.op 9 [] (.op 10 [] .done))))) (.op 7 [] (.op 5 [1] (.op 6 [] (.op 9 [] (.op 10 [] .done))))))) (.op 7 [] (.op 2 [] (.op 5 [1] (.op 6 [] (.op 9 [] (.op 10 [] .done)))))))))))))) (ret P) k0 (B1 P) := fun _ _ _ _  => by kernel_rfl
abbrev k1 : Sk := [(0,.g [.i,.v])]
noncomputable def o2 := ob Try.f97 [.l]
def B2 (P : PT) (x0a : Int) (x0b : Value) (H : AHeap) : Prop :=
  newK H [(Value.int .i64 x0a), x0b] 31 (fun b1 H2 => newK H2 [(Value.int .i64 0), (Value.slice none 0 0), (Value.slice none 0 0), (Value.slice none 0 0)] 45 (fun b3 H4 => B1 P b1 b3 H4))
theorem q2 (P : PT) : QB Try.prog T0 13 o2 (En 13 k0 (B1 P)) k1 (B2 P) := fun _ _ _ _  => by kernel_rfl
noncomputable def code : Code := (.seq (.region 0 ⟨o2⟩ false) (.seq (.region 1 ⟨o1⟩ true) .ret))
theorem body : Try.f97.body = some code := by kernel_rfl
theorem main (P : PT) : ∀ env H, (En 13 k1 (B2 P)) env H → AW Try.prog T0 code env H (mkQ (ret P) (fun _ _ _ => False) (ret P)) :=
  (r_seq (rB T0_ok (q2 P)) (r_seq (rT T0_ok mixed (.op 0 [] (.op 1 [] (.op 3 [] (.op 4 [] (.alt (.op 2 [] (.alt (.op 5 [1] (.op 6 [] (.alt (.op 7 [] (.op 8 [] (.op 9 [] (.op 10 [] .done)))) (.op 8 [] (.op 7 [] (.op 9 [] (.op 10 [] .done))))))) (.alt (.op 7 [] (.alt (.op 5 [1] (.op 6 [] (.op 8 [] (.op 9 [] (.op 10 [] .done))))) (.op 8 [] (.op 5 [1] (.op 6 [] (.op 9 [] (.op 10 [] .done))))))) (.op 8 [] (.alt (.op 5 [1] (.op 6 [] (.op 7 [] (.op 9 [] (.op 10 [] .done))))) (.op 7 [] (.op 5 [1] (.op 6 [] (.op 9 [] (.op 10 [] .done)))))))))) (.alt (.op 7 [] (.alt (.op 2 [] (.alt (.op 5 [1] (.op 6 [] (.op 8 [] (.op 9 [] (.op 10 [] .done))))) (.op 8 [] (.op 5 [1] (.op 6 [] (.op 9 [] (.op 10 [] .done))))))) (.op 8 [] (.op 2 [] (.op 5 [1] (.op 6 [] (.op 9 [] (.op 10 [] .done)))))))) (.op 8 [] (.alt (.op 2 [] (.alt (.op 5 [1] (.op 6 [] (.op 7 [] (.op 9 [] (.op 10 [] .done))))) (.op 7 [] (.op 5 [1] (.op 6 [] (.op 9 [] (.op 10 [] .done))))))) (.op 7 [] (.op 2 [] (.op 5 [1] (.op 6 [] (.op 9 [] (.op 10 [] .done)))))))))))))) (by kernel_rfl) (q1 P)) r_ret))
theorem ac (P : PT) (x0a : Int) (x0b : Value) (H : AHeap) (h : B2 P x0a x0b H) : AC Try.prog T0 97 [(Value.agg ⟨[(Value.int .i64 x0a), x0b]⟩)] H P :=
  r_fn T0_ok (c := code) (n := 13) Try.func97 body (by kernel_rfl) (main P) (En_mk (x0a, x0b, ()) (by kernel_rfl) ⟨by kernel_rfl, trivial⟩ h)

end F97
-- slices.Concat[[]loop.example/g01329/impl.Edge,loop.example/g01329/impl.Edge]
namespace F98
noncomputable def ret (P : PT) : EP := retE T0 36 Try.f98 P
abbrev k0 : Sk := [(6,.v)]
noncomputable def o1 := ob Try.f98 [.r,.r,.r,.r,.r,.l]
def B1 (P : PT) (x6 : Value) (H : AHeap) : Prop :=
  P x6 H
theorem q1 (P : PT) : QB Try.prog T0 36 o1 (ret P) k0 (B1 P) := fun _ _ _  => by kernel_rfl
abbrev k1 : Sk := [(6,.v),(25,.v),(26,.i .i64),(27,.i .i64)]
noncomputable def o3 := ob Try.f98 [.r,.r,.r,.r,.l,.r,.l,.l,.r,.r,.r]
def B3 (P : PT) (N2 : NTy k1 Pr) (x6 x25 : Value) (x26 x27 : Int) (H : AHeap) : Prop :=
  N2 x6 x25 x26 (IntKind.i64.wrap (x27 + 1)) H
theorem q3 (P : PT) (N2 : NTy k1 Pr) : QB Try.prog T0 36 o3 (En 36 k1 N2) k1 (B3 P N2) := fun _ _ _ _ _ _  => by kernel_rfl
abbrev k2 : Sk := [(6,.v),(8,.v),(25,.v),(26,.i .i64),(27,.i .i64)]
noncomputable def o4 := ob Try.f98 [.r,.r,.r,.r,.l,.r,.l,.l,.r,.r,.l,.l,.r]
def B4 (P : PT) (N2 : NTy k1 Pr) (x6 x8 x25 : Value) (x26 x27 : Int) (H : AHeap) : Prop :=
  apK T0 67 H x6 x8 (fun v1 H2 => B3 P N2 v1 x25 x26 x27 H2)
theorem q4 (P : PT) (N2 : NTy k1 Pr) : QB Try.prog T0 36 o4 (En 36 k1 (B3 P N2)) k2 (B4 P N2) := fun _ _ _ _ _ _ _  => by kernel_rfl
noncomputable def o5 := ob Try.f98 [.r,.r,.r,.r,.l,.r,.l,.l,.r,.r,.l,.l,.l]
def B5 (P : PT) (N2 : NTy k1 Pr) (x6 x25 : Value) (x26 x27 : Int) (H : AHeap) : Prop :=
  idxK x25 x27 1 (fun b1 o2 => ld1 H b1 o2 (fun v3 => B4 P N2 x6 v3 x25 x26 x27 H))
theorem q5 (P : PT) (N2 : NTy k1 Pr) : QB Try.prog T0 36 o5 (En 36 k2 (B4 P N2)) k1 (B5 P N2) := fun _ _ _ _ _ _  => by kernel_rfl
noncomputable def o6 := ob Try.f98 [.r,.r,.r,.r,.l,.r,.l,.l,.l]
def B6 (P : PT) (N2 : NTy k1 Pr) (x6 x25 : Value) (x26 x27 : Int) (H : AHeap) : Prop :=
  pif (decide ((x27 : Int) < x26)) (B5 P N2 x6 x25 x26 x27 H) (B1 P x6 H)
theorem q6 (P : PT) (N2 : NTy k1 Pr) : QB Try.prog T0 36 o6 (cnd 28 (En 36 k1 (B5 P N2)) (En 36 k0 (B1 P))) k1 (B6 P N2) := fun _ _ _ _ _ _  => by kernel_rfl
def L2 (P : PT) (x6 x25 : Value) (x26 x27 : Int) (H : AHeap) : Prop :=
  ∃ (I : NTy k1 Pr) (μ : NTy k1 (AHeap → Nat)), I x6 x25 x26 x27 H ∧ ∀ y6 y25 y26 y27 G, I y6 y25 y26 y27 G → B6 P (fun z6 z25 z26 z27 G' => I z6 z25 z26 z27 G' ∧ μ z6 z25 z26 z27 G' < μ y6 y25 y26 y27 G) y6 y25 y26 y27 G
theorem l2 (P : PT) : LQ k1 (L2 P) (B6 P) := fun ⟨_,_,_,_,_⟩ _ ⟨I, μ, h0, hI⟩ => ⟨apT _ I, apT _ μ, h0, fun ⟨_,_,_,_,_⟩ _ h => hI _ _ _ _ _  h⟩
abbrev k3 : Sk := [(0,.v),(6,.v)]
noncomputable def o7 := ob Try.f98 [.r,.r,.r,.r,.l,.l]
def B7 (P : PT) (x0 x6 : Value) (H : AHeap) : Prop :=
  lenK x0 (fun n1 => L2 P x6 x0 (n1 : Int) 0 H)
theorem q7 (P : PT) : QB Try.prog T0 36 o7 (En 36 k1 (L2 P)) k3 (B7 P) := fun _ _ _ _  => by kernel_rfl
abbrev k4 : Sk := [(0,.v),(3,.i .i64)]
noncomputable def o8 := ob Try.f98 [.r,.r,.r,.l]
def B8 (P : PT) (x0 : Value) (x3 : Int) (H : AHeap) : Prop :=
  AC Try.prog T0 148 [(Value.slice none 0 0), (Value.int .i64 x3)] H (fun v1 H2 => B7 P x0 v1 H2)
theorem q8 (P : PT) : QB Try.prog T0 36 o8 (En 36 k3 (B7 P)) k4 (B8 P) := fun _ _ _ _  => by kernel_rfl
abbrev k5 : Sk := [(0,.v),(3,.i .i64),(9,.v),(10,.i .i64),(11,.i .i64)]
noncomputable def o10 := ob Try.f98 [.r,.r,.l,.r,.l,.l,.r,.r,.r]
def B10 (P : PT) (N9 : NTy k5 Pr) (x0 : Value) (x3 : Int) (x9 : Value) (x10 x11 : Int) (H : AHeap) : Prop :=
  N9 x0 x3 x9 x10 (IntKind.i64.wrap (x11 + 1)) H
theorem q10 (P : PT) (N9 : NTy k5 Pr) : QB Try.prog T0 36 o10 (En 36 k5 N9) k5 (B10 P N9) := fun _ _ _ _ _ _ _  => by kernel_rfl
noncomputable def o11 := ob Try.f98 [.r,.r,.l,.r,.l,.l,.r,.r,.l,.l,.r,.r,.l]
def B11 (P : PT) (N9 : NTy k5 Pr) (x0 : Value) (x3 : Int) (x9 : Value) (x10 x11 : Int) (H : AHeap) : Prop :=
  pif (decide ((x3 : Int) < 0)) (False) (B10 P N9 x0 x3 x9 x10 x11 H)
theorem q11 (P : PT) (N9 : NTy k5 Pr) : QB Try.prog T0 36 o11 (cnd 20 (fun _ _ => False) (En 36 k5 (B10 P N9))) k5 (B11 P N9) := fun _ _ _ _ _ _ _  => by kernel_rfl
abbrev k6 : Sk := [(0,.v),(3,.i .i64),(5,.v),(9,.v),(10,.i .i64),(11,.i .i64)]
noncomputable def o12 := ob Try.f98 [.r,.r,.l,.r,.l,.l,.r,.r,.l,.l,.r,.l]
def B12 (P : PT) (N9 : NTy k5 Pr) (x0 : Value) (x3 : Int) (x5 x9 : Value) (x10 x11 : Int) (H : AHeap) : Prop :=
  lenK x5 (fun n1 => B11 P N9 x0 (IntKind.i64.wrap (x3 + (n1 : Int))) x9 x10 x11 H)
theorem q12 (P : PT) (N9 : NTy k5 Pr) : QB Try.prog T0 36 o12 (En 36 k5 (B11 P N9)) k6 (B12 P N9) := fun _ _ _ _ _ _ _ _  => by kernel_rfl
noncomputable def o13 := ob Try.f98 [.r,.r,.l,.r,.l,.l,.r,.r,.l,.l,.l]
def B13 (P : PT) (N9 : NTy k5 Pr) (x0 : Value) (x3 : Int) (x9 : Value) (x10 x11 : Int) (H : AHeap) : Prop :=
  idxK x9 x11 1 (fun b1 o2 => ld1 H b1 o2 (fun v3 => B12 P N9 x0 x3 v3 x9 x10 x11 H))
theorem q13 (P : PT) (N9 : NTy k5 Pr) : QB Try.prog T0 36 o13 (En 36 k6 (B12 P N9)) k5 (B13 P N9) := fun _ _ _ _ _ _ _  => by kernel_rfl
noncomputable def o14 := ob Try.f98 [.r,.r,.l,.r,.l,.l,.l]
def B14 (P : PT) (N9 : NTy k5 Pr) (x0 : Value) (x3 : Int) (x9 : Value) (x10 x11 : Int) (H : AHeap) : Prop :=
  pif (decide ((x11 : Int) < x10)) (B13 P N9 x0 x3 x9 x10 x11 H) (B8 P x0 x3 H)
theorem q14 (P : PT) (N9 : NTy k5 Pr) : QB Try.prog T0 36 o14 (cnd 12 (En 36 k5 (B13 P N9)) (En 36 k4 (B8 P))) k5 (B14 P N9) := fun _ _ _ _ _ _ _  => by kernel_rfl
def L9 (P : PT) (x0 : Value) (x3 : Int) (x9 : Value) (x10 x11 : Int) (H : AHeap) : Prop :=
  ∃ (I : NTy k5 Pr) (μ : NTy k5 (AHeap → Nat)), I x0 x3 x9 x10 x11 H ∧ ∀ y0 y3 y9 y10 y11 G, I y0 y3 y9 y10 y11 G → B14 P (fun z0 z3 z9 z10 z11 G' => I z0 z3 z9 z10 z11 G' ∧ μ z0 z3 z9 z10 z11 G' < μ y0 y3 y9 y10 y11 G) y0 y3 y9 y10 y11 G
theorem l9 (P : PT) : LQ k5 (L9 P) (B14 P) := fun ⟨_,_,_,_,_,_⟩ _ ⟨I, μ, h0, hI⟩ => ⟨apT _ I, apT _ μ, h0, fun ⟨_,_,_,_,_,_⟩ _ h => hI _ _ _ _ _ _  h⟩
noncomputable def o15 := ob Try.f98 [.r,.r,.l,.l]
def B15 (P : PT) (x0 : Value) (x3 : Int) (H : AHeap) : Prop :=
  lenK x0 (fun n1 => L9 P x0 x3 x0 (n1 : Int) 0 H)
theorem q15 (P : PT) : QB Try.prog T0 36 o15 (En 36 k5 (L9 P)) k4 (B15 P) := fun _ _ _ _  => by kernel_rfl
abbrev k7 : Sk := [(0,.v)]
noncomputable def o16 := ob Try.f98 [.r,.l]
def B16 (P : PT) (x0 : Value) (H : AHeap) : Prop :=
  B15 P x0 0 H
theorem q16 (P : PT) : QB Try.prog T0 36 o16 (En 36 k4 (B15 P)) k7 (B16 P) := fun _ _ _  => by kernel_rfl
noncomputable def o17 := ob Try.f98 [.l]
def B17 (P : PT) (x0 : Value) (H : AHeap) : Prop :=
  B16 P x0 H
theorem q17 (P : PT) : QB Try.prog T0 36 o17 (En 36 k7 (B16 P)) k7 (B17 P) := fun _ _ _  => by kernel_rfl
noncomputable def code : Code := (.seq (.region 0 ⟨o17⟩ false) (.seq (.region 1 ⟨o16⟩ false) (.seq (.seq (.region 2 ⟨o15⟩ false) (.block 0 (.loop (.seq (.region 3 ⟨o14⟩ false) (.seq (.cond (.tmp 12) .skip (.exit 0)) (.seq (.block 1 (.seq (.region 4 ⟨o13⟩ false) (.seq (.region 5 ⟨o12⟩ false) (.seq (.region 6 ⟨o11⟩ false) (.cond (.tmp 20) (codeAt (bodyOf Try.f98) [.r,.r,.l,.r,.l,.l,.r,.r,.l,.l,.r,.r,.r,.l]) .skip))))) (.region 8 ⟨o10⟩ false))))))) (.seq (.region 9 ⟨o8⟩ false) (.seq (.seq (.region 10 ⟨o7⟩ false) (.block 2 (.loop (.seq (.region 11 ⟨o6⟩ false) (.seq (.cond (.tmp 28) .skip (.exit 2)) (.seq (.block 3 (.seq (.region 12 ⟨o5⟩ false) (.region 13 ⟨o4⟩ false))) (.region 14 ⟨o3⟩ false))))))) (.seq (.region 15 ⟨o1⟩ false) .ret))))))
theorem body : Try.f98.body = some code := by kernel_rfl
theorem main (P : PT) : ∀ env H, (En 36 k7 (B17 P)) env H → AW Try.prog T0 code env H (mkQ (ret P) (fun _ _ _ => False) (ret P)) :=
  (r_seq (rB T0_ok (q17 P)) (r_seq (rB T0_ok (q16 P)) (r_seq (r_seq (rB T0_ok (q15 P)) (r_block (rL (l9 P) (fun N9 => (r_seq (rB T0_ok (q14 P N9)) (r_seq (r_cond rfl r_skip (r_exit (fun _ _ h => h))) (r_seq (r_block (r_seq (rB T0_ok (q13 P N9)) (r_seq (rB T0_ok (q12 P N9)) (r_seq (rB T0_ok (q11 P N9)) (r_cond rfl r_none r_skip))))) (rB T0_ok (q10 P N9))))))))) (r_seq (rB T0_ok (q8 P)) (r_seq (r_seq (rB T0_ok (q7 P)) (r_block (rL (l2 P) (fun N2 => (r_seq (rB T0_ok (q6 P N2)) (r_seq (r_cond rfl r_skip (r_exit (fun _ _ h => h))) (r_seq (r_block (r_seq (rB T0_ok (q5 P N2)) (rB T0_ok (q4 P N2)))) (rB T0_ok (q3 P N2))))))))) (r_seq (rB T0_ok (q1 P)) r_ret))))))
theorem ac (P : PT) (x0 : Value) (H : AHeap) (h : B17 P x0 H) : AC Try.prog T0 98 [x0] H P :=
  r_fn T0_ok (c := code) (n := 36) Try.func98 body (by kernel_rfl) (main P) (En_mk (x0, ()) (by kernel_rfl) ⟨by kernel_rfl, trivial⟩ h)

end F98
-- loop.example/g01329/impl.star
namespace F99
noncomputable def ret (P : PT) : EP := retE T0 22 Try.f99 P
abbrev k0 : Sk := [(5,.v)]
noncomputable def o1 := ob Try.f99 [.r,.r,.r,.l]
def B1 (P : PT) (x5 : Value) (H : AHeap) : Prop :=
  P x5 H
theorem q1 (P : PT) : QB Try.prog T0 22 o1 (ret P) k0 (B1 P) := fun _ _ _  => by kernel_rfl
abbrev k1 : Sk := [(0,.i .i64),(5,.v),(8,.v),(9,.i .i64),(10,.i .i64)]
noncomputable def o3 := ob Try.f99 [.r,.r,.l,.r,.l,.l,.r,.r,.r]
def B3 (P : PT) (N2 : NTy k1 Pr) (x0 : Int) (x5 x8 : Value) (x9 x10 : Int) (H : AHeap) : Prop :=
  N2 x0 x5 x8 x9 (IntKind.i64.wrap (x10 + 1)) H
theorem q3 (P : PT) (N2 : NTy k1 Pr) : QB Try.prog T0 22 o3 (En 22 k1 N2) k1 (B3 P N2) := fun _ _ _ _ _ _ _  => by kernel_rfl
abbrev k2 : Sk := [(0,.i .i64),(5,.v),(7,.i .i64),(8,.v),(9,.i .i64),(10,.i .i64)]
noncomputable def o4 := ob Try.f99 [.r,.r,.l,.r,.l,.l,.r,.r,.l,.l,.r]
def B4 (P : PT) (N2 : NTy k1 Pr) (x0 : Int) (x5 : Value) (x7 : Int) (x8 : Value) (x9 x10 : Int) (H : AHeap) : Prop :=
  newK H [(Value.int .i64 x0), (Value.int .i64 x7)] 67 (fun b1 H2 => apK T0 67 H2 x5 (Value.slice (some ⟨b1, 0, none⟩) 1 (1 + 1)) (fun v3 H4 => B3 P N2 x0 v3 x8 x9 x10 H4))
theorem q4 (P : PT) (N2 : NTy k1 Pr) : QB Try.prog T0 22 o4 (En 22 k1 (B3 P N2)) k2 (B4 P N2) := fun _ _ _ _ _ _ _ _  => by kernel_rfl
noncomputable def o5 := ob Try.f99 [.r,.r,.l,.r,.l,.l,.r,.r,.l,.l,.l]
def B5 (P : PT) (N2 : NTy k1 Pr) (x0 : Int) (x5 x8 : Value) (x9 x10 : Int) (H : AHeap) : Prop :=
  idxK x8 x10 1 (fun b1 o2 => ldI .i64 H b1 o2 (fun v3 => B4 P N2 x0 x5 v3 x8 x9 x10 H))
theorem q5 (P : PT) (N2 : NTy k1 Pr) : QB Try.prog T0 22 o5 (En 22 k2 (B4 P N2)) k1 (B5 P N2) := fun _ _ _ _ _ _ _  => by kernel_rfl
noncomputable def o6 := ob Try.f99 [.r,.r,.l,.r,.l,.l,.l]
def B6 (P : PT) (N2 : NTy k1 Pr) (x0 : Int) (x5 x8 : Value) (x9 x10 : Int) (H : AHeap) : Prop :=
  pif (decide ((x10 : Int) < x9)) (B5 P N2 x0 x5 x8 x9 x10 H) (B1 P x5 H)
theorem q6 (P : PT) (N2 : NTy k1 Pr) : QB Try.prog T0 22 o6 (cnd 11 (En 22 k1 (B5 P N2)) (En 22 k0 (B1 P))) k1 (B6 P N2) := fun _ _ _ _ _ _ _  => by kernel_rfl
def L2 (P : PT) (x0 : Int) (x5 x8 : Value) (x9 x10 : Int) (H : AHeap) : Prop :=
  ∃ (I : NTy k1 Pr) (μ : NTy k1 (AHeap → Nat)), I x0 x5 x8 x9 x10 H ∧ ∀ y0 y5 y8 y9 y10 G, I y0 y5 y8 y9 y10 G → B6 P (fun z0 z5 z8 z9 z10 G' => I z0 z5 z8 z9 z10 G' ∧ μ z0 z5 z8 z9 z10 G' < μ y0 y5 y8 y9 y10 G) y0 y5 y8 y9 y10 G
theorem l2 (P : PT) : LQ k1 (L2 P) (B6 P) := fun ⟨_,_,_,_,_,_⟩ _ ⟨I, μ, h0, hI⟩ => ⟨apT _ I, apT _ μ, h0, fun ⟨_,_,_,_,_,_⟩ _ h => hI _ _ _ _ _ _  h⟩
abbrev k3 : Sk := [(0,.i .i64),(1,.v),(5,.v)]
noncomputable def o7 := ob Try.f99 [.r,.r,.l,.l]
def B7 (P : PT) (x0 : Int) (x1 x5 : Value) (H : AHeap) : Prop :=
  lenK x1 (fun n1 => L2 P x0 x5 x1 (n1 : Int) 0 H)
theorem q7 (P : PT) : QB Try.prog T0 22 o7 (En 22 k1 (L2 P)) k3 (B7 P) := fun _ _ _ _ _  => by kernel_rfl
abbrev k4 : Sk := [(0,.i .i64),(1,.v)]
noncomputable def o8 := ob Try.f99 [.r,.l]
def B8 (P : PT) (x0 : Int) (x1 : Value) (H : AHeap) : Prop :=
  B7 P x0 x1 (Value.slice none 0 0) H
theorem q8 (P : PT) : QB Try.prog T0 22 o8 (En 22 k3 (B7 P)) k4 (B8 P) := fun _ _ _ _  => by kernel_rfl
noncomputable def o9 := ob Try.f99 [.l]
def B9 (P : PT) (x0 : Int) (x1 : Value) (H : AHeap) : Prop :=
  B8 P x0 x1 H
theorem q9 (P : PT) : QB Try.prog T0 22 o9 (En 22 k4 (B8 P)) k4 (B9 P) := fun _ _ _ _  => by kernel_rfl
noncomputable def code : Code := (.seq (.region 0 ⟨o9⟩ false) (.seq (.region 1 ⟨o8⟩ false) (.seq (.seq (.region 2 ⟨o7⟩ false) (.block 0 (.loop (.seq (.region 3 ⟨o6⟩ false) (.seq (.cond (.tmp 11) .skip (.exit 0)) (.seq (.block 1 (.seq (.region 4 ⟨o5⟩ false) (.region 5 ⟨o4⟩ false))) (.region 6 ⟨o3⟩ false))))))) (.seq (.region 7 ⟨o1⟩ false) .ret))))
theorem body : Try.f99.body = some code := by kernel_rfl
theorem main (P : PT) : ∀ env H, (En 22 k4 (B9 P)) env H → AW Try.prog T0 code env H (mkQ (ret P) (fun _ _ _ => False) (ret P)) :=
  (r_seq (rB T0_ok (q9 P)) (r_seq (rB T0_ok (q8 P)) (r_seq (r_seq (rB T0_ok (q7 P)) (r_block (rL (l2 P) (fun N2 => (r_seq (rB T0_ok (q6 P N2)) (r_seq (r_cond rfl r_skip (r_exit (fun _ _ h => h))) (r_seq (r_block (r_seq (rB T0_ok (q5 P N2)) (rB T0_ok (q4 P N2)))) (rB T0_ok (q3 P N2))))))))) (r_seq (rB T0_ok (q1 P)) r_ret))))
theorem ac (P : PT) (x0 : Int) (x1 : Value) (H : AHeap) (h : B9 P x0 x1 H) : AC Try.prog T0 99 [(Value.int .i64 x0), x1] H P :=
  r_fn T0_ok (c := code) (n := 22) Try.func99 body (by kernel_rfl) (main P) (En_mk (x0, x1, ()) (by kernel_rfl) ⟨by kernel_rfl, by kernel_rfl, trivial⟩ h)

end F99
-- loop.example/g01329/impl.cycle
namespace F100
noncomputable def ret (P : PT) : EP := retE T0 28 Try.f100 P
abbrev k0 : Sk := [(3,.v)]
noncomputable def o1 := ob Try.f100 [.r,.r,.r,.l]
def B1 (P : PT) (x3 : Value) (H : AHeap) : Prop :=
  P x3 H
theorem q1 (P : PT) : QB Try.prog T0 28 o1 (ret P) k0 (B1 P) := fun _ _ _  => by kernel_rfl
abbrev k1 : Sk := [(0,.v),(3,.v),(6,.v),(7,.i .i64),(8,.i .i64)]
noncomputable def o3 := ob Try.f100 [.r,.r,.l,.r,.l,.l,.r,.r,.r]
def B3 (P : PT) (N2 : NTy k1 Pr) (x0 x3 x6 : Value) (x7 x8 : Int) (H : AHeap) : Prop :=
  N2 x0 x3 x6 x7 (IntKind.i64.wrap (x8 + 1)) H
theorem q3 (P : PT) (N2 : NTy k1 Pr) : QB Try.prog T0 28 o3 (En 28 k1 N2) k1 (B3 P N2) := fun _ _ _ _ _ _ _  => by kernel_rfl
abbrev k2 : Sk := [(0,.v),(3,.v),(4,.i .i64),(5,.i .i64),(6,.v),(7,.i .i64),(8,.i .i64)]
noncomputable def o4 := ob Try.f100 [.r,.r,.l,.r,.l,.l,.r,.r,.l,.l,.r]
def B4 (P : PT) (N2 : NTy k1 Pr) (x0 x3 : Value) (x4 x5 : Int) (x6 : Value) (x7 x8 : Int) (H : AHeap) : Prop :=
  lenK x0 (fun n1 => nzK (n1 : Int) (idxK x0 (Int.tmod (IntKind.i64.wrap (x4 + 1)) (n1 : Int)) 1 (fun b2 o3 => ldI .i64 H b2 o3 (fun v4 => newK H [(Value.int .i64 x5), (Value.int .i64 v4)] 67 (fun b5 H6 => apK T0 67 H6 x3 (Value.slice (some ⟨b5, 0, none⟩) 1 (1 + 1)) (fun v7 H8 => B3 P N2 x0 v7 x6 x7 x8 H8))))))
theorem q4 (P : PT) (N2 : NTy k1 Pr) : QB Try.prog T0 28 o4 (En 28 k1 (B3 P N2)) k2 (B4 P N2) := fun _ _ _ _ _ _ _ _ _  => by kernel_rfl
noncomputable def o5 := ob Try.f100 [.r,.r,.l,.r,.l,.l,.r,.r,.l,.l,.l]
def B5 (P : PT) (N2 : NTy k1 Pr) (x0 x3 x6 : Value) (x7 x8 : Int) (H : AHeap) : Prop :=
  idxK x6 x8 1 (fun b1 o2 => ldI .i64 H b1 o2 (fun v3 => B4 P N2 x0 x3 x8 v3 x6 x7 x8 H))
theorem q5 (P : PT) (N2 : NTy k1 Pr) : QB Try.prog T0 28 o5 (En 28 k2 (B4 P N2)) k1 (B5 P N2) := fun _ _ _ _ _ _ _  => by kernel_rfl
noncomputable def o6 := ob Try.f100 [.r,.r,.l,.r,.l,.l,.l]
def B6 (P : PT) (N2 : NTy k1 Pr) (x0 x3 x6 : Value) (x7 x8 : Int) (H : AHeap) : Prop :=
  pif (decide ((x8 : Int) < x7)) (B5 P N2 x0 x3 x6 x7 x8 H) (B1 P x3 H)
theorem q6 (P : PT) (N2 : NTy k1 Pr) : QB Try.prog T0 28 o6 (cnd 9 (En 28 k1 (B5 P N2)) (En 28 k0 (B1 P))) k1 (B6 P N2) := fun _ _ _ _ _ _ _  => by kernel_rfl
def L2 (P : PT) (x0 x3 x6 : Value) (x7 x8 : Int) (H : AHeap) : Prop :=
  ∃ (I : NTy k1 Pr) (μ : NTy k1 (AHeap → Nat)), I x0 x3 x6 x7 x8 H ∧ ∀ y0 y3 y6 y7 y8 G, I y0 y3 y6 y7 y8 G → B6 P (fun z0 z3 z6 z7 z8 G' => I z0 z3 z6 z7 z8 G' ∧ μ z0 z3 z6 z7 z8 G' < μ y0 y3 y6 y7 y8 G) y0 y3 y6 y7 y8 G
theorem l2 (P : PT) : LQ k1 (L2 P) (B6 P) := fun ⟨_,_,_,_,_,_⟩ _ ⟨I, μ, h0, hI⟩ => ⟨apT _ I, apT _ μ, h0, fun ⟨_,_,_,_,_,_⟩ _ h => hI _ _ _ _ _ _  h⟩
abbrev k3 : Sk := [(0,.v),(3,.v)]
noncomputable def o7 := ob Try.f100 [.r,.r,.l,.l]
def B7 (P : PT) (x0 x3 : Value) (H : AHeap) : Prop :=
  lenK x0 (fun n1 => L2 P x0 x3 x0 (n1 : Int) 0 H)
theorem q7 (P : PT) : QB Try.prog T0 28 o7 (En 28 k1 (L2 P)) k3 (B7 P) := fun _ _ _ _  => by kernel_rfl
abbrev k4 : Sk := [(0,.v)]
noncomputable def o8 := ob Try.f100 [.r,.l]
def B8 (P : PT) (x0 : Value) (H : AHeap) : Prop :=
  B7 P x0 (Value.slice none 0 0) H
theorem q8 (P : PT) : QB Try.prog T0 28 o8 (En 28 k3 (B7 P)) k4 (B8 P) := fun _ _ _  => by kernel_rfl
noncomputable def o9 := ob Try.f100 [.l]
def B9 (P : PT) (x0 : Value) (H : AHeap) : Prop :=
  B8 P x0 H
theorem q9 (P : PT) : QB Try.prog T0 28 o9 (En 28 k4 (B8 P)) k4 (B9 P) := fun _ _ _  => by kernel_rfl
noncomputable def code : Code := (.seq (.region 0 ⟨o9⟩ false) (.seq (.region 1 ⟨o8⟩ false) (.seq (.seq (.region 2 ⟨o7⟩ false) (.block 0 (.loop (.seq (.region 3 ⟨o6⟩ false) (.seq (.cond (.tmp 9) .skip (.exit 0)) (.seq (.block 1 (.seq (.region 4 ⟨o5⟩ false) (.region 5 ⟨o4⟩ false))) (.region 6 ⟨o3⟩ false))))))) (.seq (.region 7 ⟨o1⟩ false) .ret))))
theorem body : Try.f100.body = some code := by kernel_rfl
theorem main (P : PT) : ∀ env H, (En 28 k4 (B9 P)) env H → AW Try.prog T0 code env H (mkQ (ret P) (fun _ _ _ => False) (ret P)) :=
  (r_seq (rB T0_ok (q9 P)) (r_seq (rB T0_ok (q8 P)) (r_seq (r_seq (rB T0_ok (q7 P)) (r_block (rL (l2 P) (fun N2 => (r_seq (rB T0_ok (q6 P N2)) (r_seq (r_cond rfl r_skip (r_exit (fun _ _ h => h))) (r_seq (r_block (r_seq (rB T0_ok (q5 P N2)) (rB T0_ok (q4 P N2)))) (rB T0_ok (q3 P N2))))))))) (r_seq (rB T0_ok (q1 P)) r_ret))))
theorem ac (P : PT) (x0 : Value) (H : AHeap) (h : B9 P x0 H) : AC Try.prog T0 100 [x0] H P :=
  r_fn T0_ok (c := code) (n := 28) Try.func100 body (by kernel_rfl) (main P) (En_mk (x0, ()) (by kernel_rfl) ⟨by kernel_rfl, trivial⟩ h)

end F100
-- loop.example/g01329/impl.graphOf
namespace F106
noncomputable def ret (P : PT) : EP := retE T0 37 Try.f106 P
abbrev k0 : Sk := [(4,.x),(5,.x)]
noncomputable def o1 := ob Try.f106 [.r,.r,.r,.r,.l]
def B1 (P : PT) (x4 x5 : Nat) (H : AHeap) : Prop :=
  ldI .i64 H x5 0 (fun v1 => ld1 H x5 1 (fun v2 => stK H x4 0 [(Value.int .i64 v1), v2] (fun H3 => ldI .i64 H3 x4 0 (fun v4 => ld1 H3 x4 1 (fun v5 => P (Value.agg ⟨[(Value.int .i64 v4), v5]⟩) H3)))))
theorem q1 (P : PT) : QB Try.prog T0 37 o1 (ret P) k0 (B1 P) := fun _ _ _ _  => by kernel_rfl
noncomputable def o2 := ob Try.f106 [.r,.r,.r,.l]
def B2 (P : PT) (x4 x5 : Nat) (H : AHeap) : Prop :=
  ld1 H x5 1 (fun v1 => AC Try.prog T0 151 [v1, (Value.func (.func 135) ⟨[]⟩ ⟨[]⟩)] H (fun v2 H3 => asTup v2 (fun l4 => B1 P x4 x5 H3)))
theorem q2 (P : PT) : QB Try.prog T0 37 o2 (En 37 k0 (B1 P)) k0 (B2 P) := fun _ _ _ _  => by kernel_rfl
abbrev k1 : Sk := [(4,.x),(5,.x),(10,.v),(11,.i .i64),(12,.i .i64)]
noncomputable def o4 := ob Try.f106 [.r,.r,.l,.r,.l,.l,.r,.r,.r]
def B4 (P : PT) (N3 : NTy k1 Pr) (x4 x5 : Nat) (x10 : Value) (x11 x12 : Int) (H : AHeap) : Prop :=
  N3 x4 x5 x10 x11 (IntKind.i64.wrap (x12 + 1)) H
theorem q4 (P : PT) (N3 : NTy k1 Pr) : QB Try.prog T0 37 o4 (En 37 k1 N3) k1 (B4 P N3) := fun _ _ _ _ _ _ _  => by kernel_rfl
abbrev k2 : Sk := [(4,.x),(5,.x),(7,.x),(10,.v),(11,.i .i64),(12,.i .i64)]
noncomputable def o5 := ob Try.f106 [.r,.r,.l,.r,.l,.l,.r,.r,.l,.l,.r]
def B5 (P : PT) (N3 : NTy k1 Pr) (x4 x5 x7 : Nat) (x10 : Value) (x11 x12 : Int) (H : AHeap) : Prop :=
  ld1 H x5 1 (fun v1 => ldI .i64 H x7 0 (fun v2 => ldI .i64 H x7 1 (fun v3 => ldI .i64 H x7 0 (fun v4 => ldI .i64 H x7 1 (fun v5 => newK H [(Value.int .i64 (if v3 < v2 then v3 else v2)), (Value.int .i64 (if v5 > v4 then v5 else v4))] 67 (fun b6 H7 => apK T0 67 H7 v1 (Value.slice (some ⟨b6, 0, none⟩) 1 (1 + 1)) (fun v8 H9 => pif (Value.oneCell' v8) (stK H9 x5 1 [v8] (fun H10 => B4 P N3 x4 x5 x10 x11 x12 H10)) False)))))))
theorem q5 (P : PT) (N3 : NTy k1 Pr) : QB Try.prog T0 37 o5 (En 37 k1 (B4 P N3)) k2 (B5 P N3) := fun _ _ _ _ _ _ _ _  => by kernel_rfl
noncomputable def o6 := ob Try.f106 [.r,.r,.l,.r,.l,.l,.r,.r,.l,.l,.l]
def B6 (P : PT) (N3 : NTy k1 Pr) (x4 x5 : Nat) (x10 : Value) (x11 x12 : Int) (H : AHeap) : Prop :=
  idxK x10 x12 2 (fun b1 o2 => ldI .i64 H b1 o2 (fun v3 => ldI .i64 H b1 (o2 + 1) (fun v4 => newK H [(Value.int .i64 0), (Value.int .i64 0)] 67 (fun b5 H6 => stK H6 b5 0 [(Value.int .i64 v3), (Value.int .i64 v4)] (fun H7 => B5 P N3 x4 x5 b5 x10 x11 x12 H7)))))
theorem q6 (P : PT) (N3 : NTy k1 Pr) : QB Try.prog T0 37 o6 (En 37 k2 (B5 P N3)) k1 (B6 P N3) := fun _ _ _ _ _ _ _  => by kernel_rfl
noncomputable def o7 := ob Try.f106 [.r,.r,.l,.r,.l,.l,.l]
def B7 (P : PT) (N3 : NTy k1 Pr) (x4 x5 : Nat) (x10 : Value) (x11 x12 : Int) (H : AHeap) : Prop :=
  pif (decide ((x12 : Int) < x11)) (B6 P N3 x4 x5 x10 x11 x12 H) (B2 P x4 x5 H)
theorem q7 (P : PT) (N3 : NTy k1 Pr) : QB Try.prog T0 37 o7 (cnd 13 (En 37 k1 (B6 P N3)) (En 37 k0 (B2 P))) k1 (B7 P N3) := fun _ _ _ _ _ _ _  => by kernel_rfl
def L3 (P : PT) (x4 x5 : Nat) (x10 : Value) (x11 x12 : Int) (H : AHeap) : Prop :=
  ∃ (I : NTy k1 Pr) (μ : NTy k1 (AHeap → Nat)), I x4 x5 x10 x11 x12 H ∧ ∀ y4 y5 y10 y11 y12 G, I y4 y5 y10 y11 y12 G → B7 P (fun z4 z5 z10 z11 z12 G' => I z4 z5 z10 z11 z12 G' ∧ μ z4 z5 z10 z11 z12 G' < μ y4 y5 y10 y11 y12 G) y4 y5 y10 y11 y12 G
theorem l3 (P : PT) : LQ k1 (L3 P) (B7 P) := fun ⟨_,_,_,_,_,_⟩ _ ⟨I, μ, h0, hI⟩ => ⟨apT _ I, apT _ μ, h0, fun ⟨_,_,_,_,_,_⟩ _ h => hI _ _ _ _ _ _  h⟩
abbrev k3 : Sk := [(1,.v),(4,.x),(5,.x)]
noncomputable def o8 := ob Try.f106 [.r,.r,.l,.l]
def B8 (P : PT) (x1 : Value) (x4 x5 : Nat) (H : AHeap) : Prop :=
  lenK x1 (fun n1 => L3 P x4 x5 x1 (n1 : Int) 0 H)
theorem q8 (P : PT) : QB Try.prog T0 37 o8 (En 37 k1 (L3 P)) k3 (B8 P) := fun _ _ _ _ _  => by kernel_rfl
abbrev k4 : Sk := [(0,.i .i64),(1,.v),(4,.x)]
noncomputable def o9 := ob Try.f106 [.r,.l]
def B9 (P : PT) (x0 : Int) (x1 : Value) (x4 : Nat) (H : AHeap) : Prop :=
  newK H [(Value.int .i64 0), (Value.slice none 0 0)] 31 (fun b1 H2 => stK H2 b1 0 [(Value.int .i64 x0), (Value.slice none 0 0)] (fun H3 => B8 P x1 x4 b1 H3))
theorem q9 (P : PT) : QB Try.prog T0 37 o9 (En 37 k3 (B8 P)) k4 (B9 P) := fun _ _ _ _ _  => by kernel_rfl
abbrev k5 : Sk := [(0,.i .i64),(1,.v)]
noncomputable def o10 := ob Try.f106 [.l]
def B10 (P : PT) (x0 : Int) (x1 : Value) (H : AHeap) : Prop :=
  newK H [(Value.int .i64 0), (Value.slice none 0 0)] 31 (fun b1 H2 => B9 P x0 x1 b1 H2)
theorem q10 (P : PT) : QB Try.prog T0 37 o10 (En 37 k4 (B9 P)) k5 (B10 P) := fun _ _ _ _  => by kernel_rfl
noncomputable def code : Code := (.seq (.region 0 ⟨o10⟩ false) (.seq (.region 1 ⟨o9⟩ false) (.seq (.seq (.region 2 ⟨o8⟩ false) (.block 0 (.loop (.seq (.region 3 ⟨o7⟩ false) (.seq (.cond (.tmp 13) .skip (.exit 0)) (.seq (.block 1 (.seq (.region 4 ⟨o6⟩ false) (.region 5 ⟨o5⟩ false))) (.region 6 ⟨o4⟩ false))))))) (.seq (.region 7 ⟨o2⟩ false) (.seq (.region 8 ⟨o1⟩ false) .ret)))))
theorem body : Try.f106.body = some code := by kernel_rfl
theorem main (P : PT) : ∀ env H, (En 37 k5 (B10 P)) env H → AW Try.prog T0 code env H (mkQ (ret P) (fun _ _ _ => False) (ret P)) :=
  (r_seq (rB T0_ok (q10 P)) (r_seq (rB T0_ok (q9 P)) (r_seq (r_seq (rB T0_ok (q8 P)) (r_block (rL (l3 P) (fun N3 => (r_seq (rB T0_ok (q7 P N3)) (r_seq (r_cond rfl r_skip (r_exit (fun _ _ h => h))) (r_seq (r_block (r_seq (rB T0_ok (q6 P N3)) (rB T0_ok (q5 P N3)))) (rB T0_ok (q4 P N3))))))))) (r_seq (rB T0_ok (q2 P)) (r_seq (rB T0_ok (q1 P)) r_ret)))))
theorem ac (P : PT) (x0 : Int) (x1 : Value) (H : AHeap) (h : B10 P x0 x1 H) : AC Try.prog T0 106 [(Value.int .i64 x0), x1] H P :=
  r_fn T0_ok (c := code) (n := 37) Try.func106 body (by kernel_rfl) (main P) (En_mk (x0, x1, ()) (by kernel_rfl) ⟨by kernel_rfl, by kernel_rfl, trivial⟩ h)

end F106
-- loop.example/g01329/laws.heldEdgeS
namespace F107
noncomputable def ret (P : PT) : EP := retE T0 28 Try.f107 P
abbrev k0 : Sk := [(1,.i .i64)]
noncomputable def o1 := ob Try.f107 [.r,.r,.l]
def B1 (P : PT) (x1 : Int) (H : AHeap) : Prop :=
  P (Value.int .i64 x1) H
theorem q1 (P : PT) : QB Try.prog T0 28 o1 (ret P) k0 (B1 P) := fun _ _ _  => by kernel_rfl
abbrev k1 : Sk := [(0,.v),(1,.i .i64),(5,.i .i64)]
noncomputable def o3 := ob Try.f107 [.r,.l,.r,.l,.l,.r,.r]
def B3 (P : PT) (N2 : NTy k1 Pr) (x0 : Value) (x1 x5 : Int) (H : AHeap) : Prop :=
  N2 x0 x1 (IntKind.i64.wrap (x5 + 1)) H
theorem q3 (P : PT) (N2 : NTy k1 Pr) : QB Try.prog T0 28 o3 (En 28 k1 N2) k1 (B3 P N2) := fun _ _ _ _ _  => by kernel_rfl
abbrev k2 : Sk := [(0,.v),(1,.i .i64),(5,.i .i64),(6,.i .i64)]
noncomputable def o5 := ob Try.f107 [.r,.l,.r,.l,.l,.r,.l,.l,.r,.l,.l,.r,.r]
def B5 (P : PT) (N2 : NTy k1 Pr) (N4 : NTy k2 Pr) (x0 : Value) (x1 x5 x6 : Int) (H : AHeap) : Prop :=
  N4 x0 x1 x5 (IntKind.i64.wrap (x6 + 1)) H
theorem q5 (P : PT) (N2 : NTy k1 Pr) (N4 : NTy k2 Pr) : QB Try.prog T0 28 o5 (En 28 k2 N4) k2 (B5 P N2 N4) := fun _ _ _ _ _ _  => by kernel_rfl
noncomputable def o6 := ob Try.f107 [.r,.l,.r,.l,.l,.r,.l,.l,.r,.l,.l,.r,.l,.l,.r]
def B6 (P : PT) (N2 : NTy k1 Pr) (N4 : NTy k2 Pr) (x0 : Value) (x1 x5 x6 : Int) (H : AHeap) : Prop :=
  B5 P N2 N4 x0 (IntKind.i64.wrap (x1 + 1)) x5 x6 H
theorem q6 (P : PT) (N2 : NTy k1 Pr) (N4 : NTy k2 Pr) : QB Try.prog T0 28 o6 (En 28 k2 (B5 P N2 N4)) k2 (B6 P N2 N4) := fun _ _ _ _ _ _  => by kernel_rfl
abbrev k3 : Sk := []
noncomputable def o7 := ob Try.f107 [.r,.l,.r,.l,.l,.r,.l,.l,.r,.l,.l,.r,.l,.l,.l,.r,.l,.l]
def B7 (P : PT) (N2 : NTy k1 Pr) (N4 : NTy k2 Pr) (H : AHeap) : Prop :=
  P (Value.int .i64 (-1)) H
theorem q7 (P : PT) (N2 : NTy k1 Pr) (N4 : NTy k2 Pr) : QB Try.prog T0 28 o7 (ret P) k3 (B7 P N2 N4) := fun _ _  => by kernel_rfl
noncomputable def o8 := ob Try.f107 [.r,.l,.r,.l,.l,.r,.l,.l,.r,.l,.l,.r,.l,.l,.l,.l]
def B8 (P : PT) (N2 : NTy k1 Pr) (N4 : NTy k2 Pr) (x0 : Value) (x1 x5 x6 : Int) (H : AHeap) : Prop :=
  idxK x0 x5 2 (fun b1 o2 => bndK x6 2 (ldI .i64 H b1 (o2 + Int.toNat x6 * 1) (fun v3 => pif ((v3 : Int) != x1) (B7 P N2 N4 H) (B6 P N2 N4 x0 x1 x5 x6 H))))
theorem q8 (P : PT) (N2 : NTy k1 Pr) (N4 : NTy k2 Pr) : QB Try.prog T0 28 o8 (cnd 24 (En 28 k3 (B7 P N2 N4)) (En 28 k2 (B6 P N2 N4))) k2 (B8 P N2 N4) := fun _ _ _ _ _ _  => by kernel_rfl
noncomputable def o9 := ob Try.f107 [.r,.l,.r,.l,.l,.r,.l,.l,.r,.l,.l,.l,.l]
def B9 (P : PT) (N2 : NTy k1 Pr) (N4 : NTy k2 Pr) (x0 : Value) (x1 x5 x6 : Int) (H : AHeap) : Prop :=
  pif (decide ((x6 : Int) < 2)) (B8 P N2 N4 x0 x1 x5 x6 H) (B3 P N2 x0 x1 x5 H)
theorem q9 (P : PT) (N2 : NTy k1 Pr) (N4 : NTy k2 Pr) : QB Try.prog T0 28 o9 (cnd 14 (En 28 k2 (B8 P N2 N4)) (En 28 k1 (B3 P N2))) k2 (B9 P N2 N4) := fun _ _ _ _ _ _  => by kernel_rfl
def L4 (P : PT) (N2 : NTy k1 Pr) (x0 : Value) (x1 x5 x6 : Int) (H : AHeap) : Prop :=
  ∃ (I : NTy k2 Pr) (μ : NTy k2 (AHeap → Nat)), I x0 x1 x5 x6 H ∧ ∀ y0 y1 y5 y6 G, I y0 y1 y5 y6 G → B9 P N2 (fun z0 z1 z5 z6 G' => I z0 z1 z5 z6 G' ∧ μ z0 z1 z5 z6 G' < μ y0 y1 y5 y6 G) y0 y1 y5 y6 G
theorem l4 (P : PT) (N2 : NTy k1 Pr) : LQ k2 (L4 P N2) (B9 P N2) := fun ⟨_,_,_,_,_⟩ _ ⟨I, μ, h0, hI⟩ => ⟨apT _ I, apT _ μ, h0, fun ⟨_,_,_,_,_⟩ _ h => hI _ _ _ _ _  h⟩
noncomputable def o10 := ob Try.f107 [.r,.l,.r,.l,.l,.r,.l,.l,.l]
def B10 (P : PT) (N2 : NTy k1 Pr) (x0 : Value) (x1 x5 : Int) (H : AHeap) : Prop :=
  L4 P N2 x0 x1 x5 0 H
theorem q10 (P : PT) (N2 : NTy k1 Pr) : QB Try.prog T0 28 o10 (En 28 k2 (L4 P N2)) k1 (B10 P N2) := fun _ _ _ _ _  => by kernel_rfl
noncomputable def o11 := ob Try.f107 [.r,.l,.r,.l,.l,.l,.l]
def B11 (P : PT) (N2 : NTy k1 Pr) (x0 : Value) (x1 x5 : Int) (H : AHeap) : Prop :=
  lenK x0 (fun n1 => pif (decide ((x5 : Int) < (n1 : Int))) (B10 P N2 x0 x1 x5 H) (B1 P x1 H))
theorem q11 (P : PT) (N2 : NTy k1 Pr) : QB Try.prog T0 28 o11 (cnd 10 (En 28 k1 (B10 P N2)) (En 28 k0 (B1 P))) k1 (B11 P N2) := fun _ _ _ _ _  => by kernel_rfl
def L2 (P : PT) (x0 : Value) (x1 x5 : Int) (H : AHeap) : Prop :=
  ∃ (I : NTy k1 Pr) (μ : NTy k1 (AHeap → Nat)), I x0 x1 x5 H ∧ ∀ y0 y1 y5 G, I y0 y1 y5 G → B11 P (fun z0 z1 z5 G' => I z0 z1 z5 G' ∧ μ z0 z1 z5 G' < μ y0 y1 y5 G) y0 y1 y5 G
theorem l2 (P : PT) : LQ k1 (L2 P) (B11 P) := fun ⟨_,_,_,_⟩ _ ⟨I, μ, h0, hI⟩ => ⟨apT _ I, apT _ μ, h0, fun ⟨_,_,_,_⟩ _ h => hI _ _ _ _  h⟩
abbrev k4 : Sk := [(0,.v),(1,.i .i64)]
noncomputable def o12 := ob Try.f107 [.r,.l,.l]
def B12 (P : PT) (x0 : Value) (x1 : Int) (H : AHeap) : Prop :=
  L2 P x0 x1 0 H
theorem q12 (P : PT) : QB Try.prog T0 28 o12 (En 28 k1 (L2 P)) k4 (B12 P) := fun _ _ _ _  => by kernel_rfl
noncomputable def o13 := ob Try.f107 [.l]
def B13 (P : PT) (x0 : Value) (x1 : Int) (H : AHeap) : Prop :=
  B12 P x0 x1 H
theorem q13 (P : PT) : QB Try.prog T0 28 o13 (En 28 k4 (B12 P)) k4 (B13 P) := fun _ _ _ _  => by kernel_rfl
noncomputable def code : Code := (.seq (.region 0 ⟨o13⟩ false) (.seq (.seq (.region 1 ⟨o12⟩ false) (.block 0 (.loop (.seq (.seq (.region 2 ⟨o11⟩ false) (.cond (.tmp 10) .skip (.exit 0))) (.seq (.block 1 (.seq (.region 4 ⟨o10⟩ false) (.block 2 (.loop (.seq (.seq (.region 5 ⟨o9⟩ false) (.cond (.tmp 14) .skip (.exit 2))) (.seq (.block 3 (.seq (.seq (.region 7 ⟨o8⟩ false) (.cond (.tmp 24) (.seq (.region 8 ⟨o7⟩ false) .ret) .skip)) (.region 9 ⟨o6⟩ false))) (.region 6 ⟨o5⟩ false))))))) (.region 3 ⟨o3⟩ false)))))) (.seq (.region 10 ⟨o1⟩ false) .ret)))
theorem body : Try.f107.body = some code := by kernel_rfl
theorem main (P : PT) : ∀ env H, (En 28 k4 (B13 P)) env H → AW Try.prog T0 code env H (mkQ (ret P) (fun _ _ _ => False) (ret P)) :=
  (r_seq (rB T0_ok (q13 P)) (r_seq (r_seq (rB T0_ok (q12 P)) (r_block (rL (l2 P) (fun N2 => (r_seq (r_seq (rB T0_ok (q11 P N2)) (r_cond rfl r_skip (r_exit (fun _ _ h => h)))) (r_seq (r_block (r_seq (rB T0_ok (q10 P N2)) (r_block (rL (l4 P N2) (fun N4 => (r_seq (r_seq (rB T0_ok (q9 P N2 N4)) (r_cond rfl r_skip (r_exit (fun _ _ h => h)))) (r_seq (r_block (r_seq (r_seq (rB T0_ok (q8 P N2 N4)) (r_cond rfl (r_seq (rB T0_ok (q7 P N2 N4)) r_ret) r_skip)) (rB T0_ok (q6 P N2 N4)))) (rB T0_ok (q5 P N2 N4))))))))) (rB T0_ok (q3 P N2)))))))) (r_seq (rB T0_ok (q1 P)) r_ret)))
theorem ac (P : PT) (x0 : Value) (x1 : Int) (H : AHeap) (h : B13 P x0 x1 H) : AC Try.prog T0 107 [x0, (Value.int .i64 x1)] H P :=
  r_fn T0_ok (c := code) (n := 28) Try.func107 body (by kernel_rfl) (main P) (En_mk (x0, x1, ()) (by kernel_rfl) ⟨by kernel_rfl, by kernel_rfl, trivial⟩ h)

end F107
-- math/bits.Len
namespace F117
noncomputable def ret (P : PT) : EP := retE T0 8 Try.f117 P
abbrev k0 : Sk := [(0,.i .u64)]
noncomputable def o1 := ob Try.f117 [.r,.r,.l]
def B1 (P : PT) (x0 : Int) (H : AHeap) : Prop :=
  AC Try.prog T0 164 [(Value.int .u64 x0)] H (fun v1 H2 => asI .i64 v1 (fun v3 => P (Value.int .i64 v3) H2))
theorem q1 (P : PT) : QB Try.prog T0 8 o1 (ret P) k0 (B1 P) := fun _ _ _  => by kernel_rfl
noncomputable def o2 := ob Try.f117 [.l]
def B2 (P : PT) (x0 : Int) (H : AHeap) : Prop :=
  B1 P x0 H
theorem q2 (P : PT) : QB Try.prog T0 8 o2 (En 8 k0 (B1 P)) k0 (B2 P) := fun _ _ _  => by kernel_rfl
noncomputable def code : Code := (.seq (.region 0 ⟨o2⟩ false) (.seq (.cond (.const (.bool false)) (codeAt (bodyOf Try.f117) [.r,.l,.l]) .skip) (.seq (.region 2 ⟨o1⟩ false) .ret)))
theorem body : Try.f117.body = some code := by kernel_rfl
theorem main (P : PT) : ∀ env H, (En 8 k0 (B2 P)) env H → AW Try.prog T0 code env H (mkQ (ret P) (fun _ _ _ => False) (ret P)) :=
  (r_seq (rB T0_ok (q2 P)) (r_seq (r_condF r_skip) (r_seq (rB T0_ok (q1 P)) r_ret)))
theorem ac (P : PT) (x0 : Int) (H : AHeap) (h : B2 P x0 H) : AC Try.prog T0 117 [(Value.int .u64 x0)] H P :=
  r_fn T0_ok (c := code) (n := 8) Try.func117 body (by kernel_rfl) (main P) (En_mk (x0, ()) (by kernel_rfl) ⟨by kernel_rfl, trivial⟩ h)

end F117
-- loop.example/g01329/spec.l01Before
namespace F129
noncomputable def ret (P : PT) : EP := retE T0 24 Try.f129 P
abbrev k0 : Sk := [(2,.x),(3,.x)]
noncomputable def o1 := ob Try.f129 [.r,.l]
def B1 (P : PT) (x2 x3 : Nat) (H : AHeap) : Prop :=
  ldI .i64 H x2 0 (fun v1 => ldI .i64 H x3 0 (fun v2 => pif (decide ((v1 : Int) < v2)) (P (Value.bool true) H) (ldI .i64 H x2 0 (fun v3 => ldI .i64 H x3 0 (fun v4 => pif ((v3 : Int) == v4) (ldI .i64 H x2 1 (fun v5 => ldI .i64 H x3 1 (fun v6 => P (Value.bool (decide ((v5 : Int) < v6))) H))) (P (Value.bool false) H))))))
theorem q1 (P : PT) : QB Try.prog T0 24 o1 (ret P) k0 (B1 P) := fun _ _ _ _  => by kernel_rfl
abbrev k1 : Sk := [(0,.g [.i,.i]),(1,.g [.i,.i])]
noncomputable def o2 := ob Try.f129 [.l]
def B2 (P : PT) (x0a x0b x1a x1b : Int) (H : AHeap) : Prop :=
  newK H [(Value.int .i64 x0a), (Value.int .i64 x0b)] 67 (fun b1 H2 => newK H2 [(Value.int .i64 x1a), (Value.int .i64 x1b)] 67 (fun b3 H4 => B1 P b1 b3 H4))
theorem q2 (P : PT) : QB Try.prog T0 24 o2 (En 24 k0 (B1 P)) k1 (B2 P) := fun _ _ _ _ _ _  => by kernel_rfl
noncomputable def code : Code := (.seq (.region 0 ⟨o2⟩ false) (.seq (.region 1 ⟨o1⟩ false) .ret))
theorem body : Try.f129.body = some code := by kernel_rfl
theorem main (P : PT) : ∀ env H, (En 24 k1 (B2 P)) env H → AW Try.prog T0 code env H (mkQ (ret P) (fun _ _ _ => False) (ret P)) :=
  (r_seq (rB T0_ok (q2 P)) (r_seq (rB T0_ok (q1 P)) r_ret))
theorem ac (P : PT) (x0a x0b x1a x1b : Int) (H : AHeap) (h : B2 P x0a x0b x1a x1b H) : AC Try.prog T0 129 [(Value.agg ⟨[(Value.int .i64 x0a), (Value.int .i64 x0b)]⟩), (Value.agg ⟨[(Value.int .i64 x1a), (Value.int .i64 x1b)]⟩)] H P :=
  r_fn T0_ok (c := code) (n := 24) Try.func129 body (by kernel_rfl) (main P) (En_mk (x0a, x0b, x1a, x1b, ()) (by kernel_rfl) ⟨by kernel_rfl, by kernel_rfl, trivial⟩ h)

end F129
-- loop.example/g01329/impl.compareEdges
namespace F135
noncomputable def ret (P : PT) : EP := retE T0 8 Try.f135 P
abbrev k0 : Sk := [(2,.x),(3,.x)]
noncomputable def o1 := ob Try.f135 [.r,.l]
def B1 (P : PT) (x2 x3 : Nat) (H : AHeap) : Prop :=
  AC Try.prog T0 171 [(Value.slice (some ⟨x2, 0, none⟩) 2 (2 + 1)), (Value.slice (some ⟨x3, 0, none⟩) 2 (2 + 1))] H (fun v1 H2 => asI .i64 v1 (fun v3 => P (Value.int .i64 v3) H2))
theorem q1 (P : PT) : QD Try.prog T0 8 o1 [(0, false), (1, false), (2, false), (3, false)] (ret P) k0 (B1 P) := fun _ _ _ _  => by kernel_rfl
abbrev k1 : Sk := [(0,.g [.i,.i]),(1,.g [.i,.i])]
noncomputable def o2 := ob Try.f135 [.l]
def B2 (P : PT) (x0a x0b x1a x1b : Int) (H : AHeap) : Prop :=
  newK H [(Value.int .i64 x0a), (Value.int .i64 x0b)] 67 (fun b1 H2 => newK H2 [(Value.int .i64 x1a), (Value.int .i64 x1b)] 67 (fun b3 H4 => B1 P b1 b3 H4))
theorem q2 (P : PT) : QB Try.prog T0 8 o2 (En 8 k0 (B1 P)) k1 (B2 P) := fun _ _ _ _ _ _  => by kernel_rfl
noncomputable def code : Code := (.seq (.region 0 ⟨o2⟩ false) (.seq (.region 1 ⟨o1⟩ true) .ret))
theorem body : Try.f135.body = some code := by kernel_rfl
theorem main (P : PT) : ∀ env H, (En 8 k1 (B2 P)) env H → AW Try.prog T0 code env H (mkQ (ret P) (fun _ _ _ => False) (ret P)) :=
  (r_seq (rB T0_ok (q2 P)) (r_seq (rD T0_ok mixed [(0, false), (1, false), (2, false), (3, false)] (by kernel_rfl) (q1 P)) r_ret))
theorem ac (P : PT) (x0a x0b x1a x1b : Int) (H : AHeap) (h : B2 P x0a x0b x1a x1b H) : AC Try.prog T0 135 [(Value.agg ⟨[(Value.int .i64 x0a), (Value.int .i64 x0b)]⟩), (Value.agg ⟨[(Value.int .i64 x1a), (Value.int .i64 x1b)]⟩)] H P :=
  r_fn T0_ok (c := code) (n := 8) Try.func135 body (by kernel_rfl) (main P) (En_mk (x0a, x0b, x1a, x1b, ()) (by kernel_rfl) ⟨by kernel_rfl, by kernel_rfl, trivial⟩ h)

end F135
-- loop.example/g01329/spec.l01Made
namespace F146
noncomputable def ret (P : PT) : EP := retE T0 9 Try.f146 P
abbrev k0 : Sk := [(0,.i .i64),(1,.v),(4,.x)]
noncomputable def o1 := ob Try.f146 [.r,.l]
def B1 (P : PT) (x0 : Int) (x1 : Value) (x4 : Nat) (H : AHeap) : Prop :=
  AC Try.prog T0 180 [x1] H (fun v1 H2 => pif (Value.oneCell' v1) (stK H2 x4 0 [(Value.int .i64 x0), v1] (fun H4 => ldI .i64 H4 x4 0 (fun v5 => ld1 H4 x4 1 (fun v6 => P (Value.agg ⟨[(Value.int .i64 v5), v6]⟩) H4)))) False)
theorem q1 (P : PT) : QB Try.prog T0 9 o1 (ret P) k0 (B1 P) := fun _ _ _ _ _  => by kernel_rfl
abbrev k1 : Sk := [(0,.i .i64),(1,.v)]
noncomputable def o2 := ob Try.f146 [.l]
def B2 (P : PT) (x0 : Int) (x1 : Value) (H : AHeap) : Prop :=
  newK H [(Value.int .i64 0), (Value.slice none 0 0)] 31 (fun b1 H2 => B1 P x0 x1 b1 H2)
theorem q2 (P : PT) : QB Try.prog T0 9 o2 (En 9 k0 (B1 P)) k1 (B2 P) := fun _ _ _ _  => by kernel_rfl
noncomputable def code : Code := (.seq (.region 0 ⟨o2⟩ false) (.seq (.region 1 ⟨o1⟩ false) .ret))
theorem body : Try.f146.body = some code := by kernel_rfl
theorem main (P : PT) : ∀ env H, (En 9 k1 (B2 P)) env H → AW Try.prog T0 code env H (mkQ (ret P) (fun _ _ _ => False) (ret P)) :=
  (r_seq (rB T0_ok (q2 P)) (r_seq (rB T0_ok (q1 P)) r_ret))
theorem ac (P : PT) (x0 : Int) (x1 : Value) (H : AHeap) (h : B2 P x0 x1 H) : AC Try.prog T0 146 [(Value.int .i64 x0), x1] H P :=
  r_fn T0_ok (c := code) (n := 9) Try.func146 body (by kernel_rfl) (main P) (En_mk (x0, x1, ()) (by kernel_rfl) ⟨by kernel_rfl, by kernel_rfl, trivial⟩ h)

end F146
-- slices.Grow[[]loop.example/g01329/impl.Edge,loop.example/g01329/impl.Edge]
namespace F148
noncomputable def ret (P : PT) : EP := retE T0 27 Try.f148 P
abbrev k0 : Sk := [(0,.v)]
noncomputable def o1 := ob Try.f148 [.r,.r,.r,.l]
def B1 (P : PT) (x0 : Value) (H : AHeap) : Prop :=
  P x0 H
theorem q1 (P : PT) : QB Try.prog T0 27 o1 (ret P) k0 (B1 P) := fun _ _ _  => by kernel_rfl
abbrev k1 : Sk := [(0,.v),(1,.i .i64)]
noncomputable def o2 := ob Try.f148 [.r,.r,.l,.r,.r,.l]
def B2 (P : PT) (x0 : Value) (x1 : Int) (H : AHeap) : Prop :=
  capK x0 (fun n1 => sliceK H 67 x0 none (some (Value.int .i64 (n1 : Int))) 2 (fun v2 => apN T0 67 H v2 (Value.int .i64 x1) (fun v3 H4 => lenK x0 (fun n5 => sliceK H4 67 v3 none (some (Value.int .i64 (n5 : Int))) 2 (fun v6 => B1 P v6 H4)))))
theorem q2 (P : PT) : QB Try.prog T0 27 o2 (En 27 k0 (B1 P)) k1 (B2 P) := fun _ _ _ _  => by kernel_rfl
noncomputable def o3 := ob Try.f148 [.r,.r,.l,.r,.l]
def B3 (P : PT) (x0 : Value) (x1 : Int) (H : AHeap) : Prop :=
  pif (decide ((x1 : Int) > 0)) (B2 P x0 x1 H) (B1 P x0 H)
theorem q3 (P : PT) : QB Try.prog T0 27 o3 (cnd 16 (En 27 k1 (B2 P)) (En 27 k0 (B1 P))) k1 (B3 P) := fun _ _ _ _  => by kernel_rfl
noncomputable def o4 := ob Try.f148 [.r,.r,.l,.l]
def B4 (P : PT) (x0 : Value) (x1 : Int) (H : AHeap) : Prop :=
  capK x0 (fun n1 => lenK x0 (fun n2 => B3 P x0 (IntKind.i64.wrap (x1 - (IntKind.i64.wrap ((n1 : Int) - (n2 : Int))))) H))
theorem q4 (P : PT) : QB Try.prog T0 27 o4 (En 27 k1 (B3 P)) k1 (B4 P) := fun _ _ _ _  => by kernel_rfl
noncomputable def o5 := ob Try.f148 [.r,.l,.l]
def B5 (P : PT) (x0 : Value) (x1 : Int) (H : AHeap) : Prop :=
  pif (decide ((x1 : Int) < 0)) (False) (B4 P x0 x1 H)
theorem q5 (P : PT) : QB Try.prog T0 27 o5 (cnd 6 (fun _ _ => False) (En 27 k1 (B4 P))) k1 (B5 P) := fun _ _ _ _  => by kernel_rfl
noncomputable def o6 := ob Try.f148 [.l]
def B6 (P : PT) (x0 : Value) (x1 : Int) (H : AHeap) : Prop :=
  B5 P x0 x1 H
theorem q6 (P : PT) : QB Try.prog T0 27 o6 (En 27 k1 (B5 P)) k1 (B6 P) := fun _ _ _ _  => by kernel_rfl
noncomputable def code : Code := (.seq (.region 0 ⟨o6⟩ false) (.seq (.seq (.region 1 ⟨o5⟩ false) (.cond (.tmp 6) (codeAt (bodyOf Try.f148) [.r,.l,.r,.l]) .skip)) (.seq (.seq (.region 3 ⟨o4⟩ false) (.seq (.region 4 ⟨o3⟩ false) (.cond (.tmp 16) (.region 5 ⟨o2⟩ false) .skip))) (.seq (.region 6 ⟨o1⟩ false) .ret))))
theorem body : Try.f148.body = some code := by kernel_rfl
theorem main (P : PT) : ∀ env H, (En 27 k1 (B6 P)) env H → AW Try.prog T0 code env H (mkQ (ret P) (fun _ _ _ => False) (ret P)) :=
  (r_seq (rB T0_ok (q6 P)) (r_seq (r_seq (rB T0_ok (q5 P)) (r_cond rfl r_none r_skip)) (r_seq (r_seq (rB T0_ok (q4 P)) (r_seq (rB T0_ok (q3 P)) (r_cond rfl (rB T0_ok (q2 P)) r_skip))) (r_seq (rB T0_ok (q1 P)) r_ret))))
theorem ac (P : PT) (x0 : Value) (x1 : Int) (H : AHeap) (h : B6 P x0 x1 H) : AC Try.prog T0 148 [x0, (Value.int .i64 x1)] H P :=
  r_fn T0_ok (c := code) (n := 27) Try.func148 body (by kernel_rfl) (main P) (En_mk (x0, x1, ()) (by kernel_rfl) ⟨by kernel_rfl, by kernel_rfl, trivial⟩ h)

end F148
-- slices.SortFunc[[]loop.example/g01329/impl.Edge,loop.example/g01329/impl.Edge]
namespace F151
noncomputable def ret (P : PT) : EP := retE T0 14 Try.f151 P
abbrev k0 : Sk := [(0,.v),(1,.v),(4,.i .i64)]
noncomputable def o1 := ob Try.f151 [.r]
def B1 (P : PT) (x0 x1 : Value) (x4 : Int) (H : AHeap) : Prop :=
  AC Try.prog T0 117 [(Value.int .u64 (IntKind.u64.wrap x4))] H (fun v1 H2 => asI .i64 v1 (fun v3 => AC Try.prog T0 182 [x0, (Value.int .i64 0), (Value.int .i64 x4), (Value.int .i64 v3), x1] H2 (fun v4 H5 => asTup v4 (fun l6 => P (Value.tuple ⟨[]⟩) H5))))
theorem q1 (P : PT) : QB Try.prog T0 14 o1 (ret P) k0 (B1 P) := fun _ _ _ _ _  => by kernel_rfl
abbrev k1 : Sk := [(0,.v),(1,.v)]
noncomputable def o2 := ob Try.f151 [.l]
def B2 (P : PT) (x0 x1 : Value) (H : AHeap) : Prop :=
  lenK x0 (fun n1 => B1 P x0 x1 (n1 : Int) H)
theorem q2 (P : PT) : QB Try.prog T0 14 o2 (En 14 k0 (B1 P)) k1 (B2 P) := fun _ _ _ _  => by kernel_rfl
noncomputable def code : Code := (.seq (.region 0 ⟨o2⟩ false) (.region 1 ⟨o1⟩ false))
theorem body : Try.f151.body = some code := by kernel_rfl
theorem main (P : PT) : ∀ env H, (En 14 k1 (B2 P)) env H → AW Try.prog T0 code env H (mkQ (ret P) (fun _ _ _ => False) (ret P)) :=
  (r_seq (rB T0_ok (q2 P)) (rB T0_ok (q1 P)))
theorem ac (P : PT) (x0 x1 : Value) (H : AHeap) (h : B2 P x0 x1 H) : AC Try.prog T0 151 [x0, x1] H P :=
  r_fn T0_ok (c := code) (n := 14) Try.func151 body (by kernel_rfl) (main P) (En_mk (x0, x1, ()) (by kernel_rfl) ⟨by kernel_rfl, by kernel_rfl, trivial⟩ h)

end F151
-- math/bits.Len64
namespace F164
noncomputable def ret (P : PT) : EP := retE T0 25 Try.f164 P
abbrev k0 : Sk := [(0,.i .u64),(2,.i .i64)]
noncomputable def o1 := ob Try.f164 [.r,.r,.r,.r,.l]
def B1 (P : PT) (x0 x2 : Int) (H : AHeap) : Prop :=
  bndK (IntKind.u8.wrap x0) (ByteArray.size (ByteArray.mk (List.toArray (List.append (List.append [0, 1, 2, 2, 3, 3, 3, 3, 4, 4, 4, 4, 4, 4, 4, 4, 5, 5, 5, 5, 5, 5, 5, 5, 5, 5, 5, 5, 5, 5, 5, 5, 6, 6, 6, 6, 6, 6, 6, 6, 6, 6, 6, 6, 6, 6, 6, 6, 6, 6, 6, 6, 6, 6, 6, 6, 6, 6, 6, 6, 6, 6, 6, 6] [7, 7, 7, 7, 7, 7, 7, 7, 7, 7, 7, 7, 7, 7, 7, 7, 7, 7, 7, 7, 7, 7, 7, 7, 7, 7, 7, 7, 7, 7, 7, 7, 7, 7, 7, 7, 7, 7, 7, 7, 7, 7, 7, 7, 7, 7, 7, 7, 7, 7, 7, 7, 7, 7, 7, 7, 7, 7, 7, 7, 7, 7, 7, 7]) (List.append [8, 8, 8, 8, 8, 8, 8, 8, 8, 8, 8, 8, 8, 8, 8, 8, 8, 8, 8, 8, 8, 8, 8, 8, 8, 8, 8, 8, 8, 8, 8, 8, 8, 8, 8, 8, 8, 8, 8, 8, 8, 8, 8, 8, 8, 8, 8, 8, 8, 8, 8, 8, 8, 8, 8, 8, 8, 8, 8, 8, 8, 8, 8, 8] [8, 8, 8, 8, 8, 8, 8, 8, 8, 8, 8, 8, 8, 8, 8, 8, 8, 8, 8, 8, 8, 8, 8, 8, 8, 8, 8, 8, 8, 8, 8, 8, 8, 8, 8, 8, 8, 8, 8, 8, 8, 8, 8, 8, 8, 8, 8, 8, 8, 8, 8, 8, 8, 8, 8, 8, 8, 8, 8, 8, 8, 8, 8, 8]))))) (P (Value.int .i64 (IntKind.i64.wrap (x2 + (IntKind.i64.wrap (((ByteArray.mk (List.toArray (List.append (List.append [0, 1, 2, 2, 3, 3, 3, 3, 4, 4, 4, 4, 4, 4, 4, 4, 5, 5, 5, 5, 5, 5, 5, 5, 5, 5, 5, 5, 5, 5, 5, 5, 6, 6, 6, 6, 6, 6, 6, 6, 6, 6, 6, 6, 6, 6, 6, 6, 6, 6, 6, 6, 6, 6, 6, 6, 6, 6, 6, 6, 6, 6, 6, 6] [7, 7, 7, 7, 7, 7, 7, 7, 7, 7, 7, 7, 7, 7, 7, 7, 7, 7, 7, 7, 7, 7, 7, 7, 7, 7, 7, 7, 7, 7, 7, 7, 7, 7, 7, 7, 7, 7, 7, 7, 7, 7, 7, 7, 7, 7, 7, 7, 7, 7, 7, 7, 7, 7, 7, 7, 7, 7, 7, 7, 7, 7, 7, 7]) (List.append [8, 8, 8, 8, 8, 8, 8, 8, 8, 8, 8, 8, 8, 8, 8, 8, 8, 8, 8, 8, 8, 8, 8, 8, 8, 8, 8, 8, 8, 8, 8, 8, 8, 8, 8, 8, 8, 8, 8, 8, 8, 8, 8, 8, 8, 8, 8, 8, 8, 8, 8, 8, 8, 8, 8, 8, 8, 8, 8, 8, 8, 8, 8, 8] [8, 8, 8, 8, 8, 8, 8, 8, 8, 8, 8, 8, 8, 8, 8, 8, 8, 8, 8, 8, 8, 8, 8, 8, 8, 8, 8, 8, 8, 8, 8, 8, 8, 8, 8, 8, 8, 8, 8, 8, 8, 8, 8, 8, 8, 8, 8, 8, 8, 8, 8, 8, 8, 8, 8, 8, 8, 8, 8, 8, 8, 8, 8, 8])))).data.toList.getD (Int.toNat (IntKind.u8.wrap x0)) 0).toNat : Int))))) H)
theorem q1 (P : PT) : QB Try.prog T0 25 o1 (ret P) k0 (B1 P) := fun _ _ _ _  => by kernel_rfl
noncomputable def o2 := ob Try.f164 [.r,.r,.r,.l,.r,.l,.r]
def B2 (P : PT) (x0 x2 : Int) (H : AHeap) : Prop :=
  B1 P x0 (IntKind.i64.wrap (x2 + 8)) H
theorem q2 (P : PT) : QB Try.prog T0 25 o2 (En 25 k0 (B1 P)) k0 (B2 P) := fun _ _ _ _  => by kernel_rfl
noncomputable def o3 := ob Try.f164 [.r,.r,.r,.l,.r,.l,.l]
def B3 (P : PT) (x0 x2 : Int) (H : AHeap) : Prop :=
  ((0 : Int) ≤ 8) ∧ (B2 P (Int.fdiv x0 (2 ^ (min (Int.toNat 8) 64))) x2 H)
theorem q3 (P : PT) : QB Try.prog T0 25 o3 (En 25 k0 (B2 P)) k0 (B3 P) := fun _ _ _ _  => by kernel_rfl
noncomputable def o4 := ob Try.f164 [.r,.r,.r,.l,.l]
def B4 (P : PT) (x0 x2 : Int) (H : AHeap) : Prop :=
  pif (decide ((x0 : Int) ≥ 256)) (B3 P x0 x2 H) (B1 P x0 x2 H)
theorem q4 (P : PT) : QB Try.prog T0 25 o4 (cnd 14 (En 25 k0 (B3 P)) (En 25 k0 (B1 P))) k0 (B4 P) := fun _ _ _ _  => by kernel_rfl
noncomputable def o5 := ob Try.f164 [.r,.r,.l,.r,.l,.r]
def B5 (P : PT) (x0 x2 : Int) (H : AHeap) : Prop :=
  B4 P x0 (IntKind.i64.wrap (x2 + 16)) H
theorem q5 (P : PT) : QB Try.prog T0 25 o5 (En 25 k0 (B4 P)) k0 (B5 P) := fun _ _ _ _  => by kernel_rfl
noncomputable def o6 := ob Try.f164 [.r,.r,.l,.r,.l,.l]
def B6 (P : PT) (x0 x2 : Int) (H : AHeap) : Prop :=
  ((0 : Int) ≤ 16) ∧ (B5 P (Int.fdiv x0 (2 ^ (min (Int.toNat 16) 64))) x2 H)
theorem q6 (P : PT) : QB Try.prog T0 25 o6 (En 25 k0 (B5 P)) k0 (B6 P) := fun _ _ _ _  => by kernel_rfl
noncomputable def o7 := ob Try.f164 [.r,.r,.l,.l]
def B7 (P : PT) (x0 x2 : Int) (H : AHeap) : Prop :=
  pif (decide ((x0 : Int) ≥ 65536)) (B6 P x0 x2 H) (B4 P x0 x2 H)
theorem q7 (P : PT) : QB Try.prog T0 25 o7 (cnd 8 (En 25 k0 (B6 P)) (En 25 k0 (B4 P))) k0 (B7 P) := fun _ _ _ _  => by kernel_rfl
abbrev k1 : Sk := [(0,.i .u64)]
noncomputable def o8 := ob Try.f164 [.r,.l,.r,.l,.r]
def B8 (P : PT) (x0 : Int) (H : AHeap) : Prop :=
  B7 P x0 32 H
theorem q8 (P : PT) : QB Try.prog T0 25 o8 (En 25 k0 (B7 P)) k1 (B8 P) := fun _ _ _  => by kernel_rfl
noncomputable def o9 := ob Try.f164 [.r,.l,.r,.l,.l]
def B9 (P : PT) (x0 : Int) (H : AHeap) : Prop :=
  ((0 : Int) ≤ 32) ∧ (B8 P (Int.fdiv x0 (2 ^ (min (Int.toNat 32) 64))) H)
theorem q9 (P : PT) : QB Try.prog T0 25 o9 (En 25 k1 (B8 P)) k1 (B9 P) := fun _ _ _  => by kernel_rfl
noncomputable def o10 := ob Try.f164 [.r,.l,.l]
def B10 (P : PT) (x0 x2 : Int) (H : AHeap) : Prop :=
  pif (decide ((x0 : Int) ≥ 4294967296)) (B9 P x0 H) (B7 P x0 x2 H)
theorem q10 (P : PT) : QB Try.prog T0 25 o10 (cnd 4 (En 25 k1 (B9 P)) (En 25 k0 (B7 P))) k0 (B10 P) := fun _ _ _ _  => by kernel_rfl
noncomputable def o11 := ob Try.f164 [.l]
def B11 (P : PT) (x0 : Int) (H : AHeap) : Prop :=
  B10 P x0 0 H
theorem q11 (P : PT) : QB Try.prog T0 25 o11 (En 25 k0 (B10 P)) k1 (B11 P) := fun _ _ _  => by kernel_rfl
noncomputable def code : Code := (.seq (.region 0 ⟨o11⟩ false) (.seq (.seq (.region 1 ⟨o10⟩ false) (.cond (.tmp 4) (.seq (.region 2 ⟨o9⟩ false) (.region 3 ⟨o8⟩ false)) .skip)) (.seq (.seq (.region 4 ⟨o7⟩ false) (.cond (.tmp 8) (.seq (.region 5 ⟨o6⟩ false) (.region 6 ⟨o5⟩ false)) .skip)) (.seq (.seq (.region 7 ⟨o4⟩ false) (.cond (.tmp 14) (.seq (.region 8 ⟨o3⟩ false) (.region 9 ⟨o2⟩ false)) .skip)) (.seq (.region 10 ⟨o1⟩ false) .ret)))))
theorem body : Try.f164.body = some code := by kernel_rfl
theorem main (P : PT) : ∀ env H, (En 25 k1 (B11 P)) env H → AW Try.prog T0 code env H (mkQ (ret P) (fun _ _ _ => False) (ret P)) :=
  (r_seq (rB T0_ok (q11 P)) (r_seq (r_seq (rB T0_ok (q10 P)) (r_cond rfl (r_seq (rB T0_ok (q9 P)) (rB T0_ok (q8 P))) r_skip)) (r_seq (r_seq (rB T0_ok (q7 P)) (r_cond rfl (r_seq (rB T0_ok (q6 P)) (rB T0_ok (q5 P))) r_skip)) (r_seq (r_seq (rB T0_ok (q4 P)) (r_cond rfl (r_seq (rB T0_ok (q3 P)) (rB T0_ok (q2 P))) r_skip)) (r_seq (rB T0_ok (q1 P)) r_ret)))))
theorem ac (P : PT) (x0 : Int) (H : AHeap) (h : B11 P x0 H) : AC Try.prog T0 164 [(Value.int .u64 x0)] H P :=
  r_fn T0_ok (c := code) (n := 25) Try.func164 body (by kernel_rfl) (main P) (En_mk (x0, ()) (by kernel_rfl) ⟨by kernel_rfl, trivial⟩ h)

end F164
-- cmp.Compare[int64]
namespace F170
noncomputable def ret (P : PT) : EP := retE T0 20 Try.f170 P
abbrev k0 : Sk := []
noncomputable def o1 := ob Try.f170 [.r,.r,.r,.r,.r,.r,.r,.l]
def B1 (P : PT) (H : AHeap) : Prop :=
  P (Value.int .i64 0) H
theorem q1 (P : PT) : QB Try.prog T0 20 o1 (ret P) k0 (B1 P) := fun _ _  => by kernel_rfl
noncomputable def o2 := ob Try.f170 [.r,.r,.r,.r,.r,.r,.l,.r,.l,.l]
def B2 (P : PT) (H : AHeap) : Prop :=
  P (Value.int .i64 1) H
theorem q2 (P : PT) : QB Try.prog T0 20 o2 (ret P) k0 (B2 P) := fun _ _  => by kernel_rfl
abbrev k1 : Sk := [(0,.i .i64),(1,.i .i64)]
noncomputable def o3 := ob Try.f170 [.r,.r,.r,.r,.r,.r,.l,.l]
def B3 (P : PT) (x0 x1 : Int) (H : AHeap) : Prop :=
  pif (decide ((x0 : Int) > x1)) (B2 P H) (B1 P H)
theorem q3 (P : PT) : QB Try.prog T0 20 o3 (cnd 19 (En 20 k0 (B2 P)) (En 20 k0 (B1 P))) k1 (B3 P) := fun _ _ _ _  => by kernel_rfl
noncomputable def o4 := ob Try.f170 [.r,.r,.r,.r,.r,.l,.r,.l,.l]
def B4 (P : PT) (H : AHeap) : Prop :=
  P (Value.int .i64 (-1)) H
theorem q4 (P : PT) : QB Try.prog T0 20 o4 (ret P) k0 (B4 P) := fun _ _  => by kernel_rfl
noncomputable def o5 := ob Try.f170 [.r,.r,.r,.r,.r,.l,.l]
def B5 (P : PT) (x0 x1 : Int) (H : AHeap) : Prop :=
  pif (decide ((x0 : Int) < x1)) (B4 P H) (B3 P x0 x1 H)
theorem q5 (P : PT) : QB Try.prog T0 20 o5 (cnd 16 (En 20 k0 (B4 P)) (En 20 k1 (B3 P))) k1 (B5 P) := fun _ _ _ _  => by kernel_rfl
noncomputable def o6 := ob Try.f170 [.r,.r,.r,.r,.l,.r,.l,.l]
def B6 (P : PT) (H : AHeap) : Prop :=
  P (Value.int .i64 1) H
theorem q6 (P : PT) : QB Try.prog T0 20 o6 (ret P) k0 (B6 P) := fun _ _  => by kernel_rfl
abbrev k2 : Sk := [(0,.i .i64),(1,.i .i64),(6,.b)]
noncomputable def o7 := ob Try.f170 [.r,.r,.r,.r,.l,.l]
def B7 (P : PT) (x0 x1 : Int) (x6 : Bool) (H : AHeap) : Prop :=
  pif x6 (B6 P H) (B5 P x0 x1 H)
theorem q7 (P : PT) : QB Try.prog T0 20 o7 (cnd 13 (En 20 k0 (B6 P)) (En 20 k1 (B5 P))) k2 (B7 P) := fun _ _ _ _ _  => by kernel_rfl
noncomputable def o8 := ob Try.f170 [.r,.r,.r,.l,.r,.l,.r,.l]
def B8 (P : PT) (H : AHeap) : Prop :=
  P (Value.int .i64 (-1)) H
theorem q8 (P : PT) : QB Try.prog T0 20 o8 (ret P) k0 (B8 P) := fun _ _  => by kernel_rfl
noncomputable def o9 := ob Try.f170 [.r,.r,.r,.l,.r,.l,.l,.r,.l,.l]
def B9 (P : PT) (H : AHeap) : Prop :=
  P (Value.int .i64 0) H
theorem q9 (P : PT) : QB Try.prog T0 20 o9 (ret P) k0 (B9 P) := fun _ _  => by kernel_rfl
abbrev k3 : Sk := [(6,.b)]
noncomputable def o10 := ob Try.f170 [.r,.r,.r,.l,.r,.l,.l,.l]
def B10 (P : PT) (x6 : Bool) (H : AHeap) : Prop :=
  pif x6 (B9 P H) (B8 P H)
theorem q10 (P : PT) : QB Try.prog T0 20 o10 (cnd 12 (En 20 k0 (B9 P)) (En 20 k0 (B8 P))) k3 (B10 P) := fun _ _ _  => by kernel_rfl
abbrev k4 : Sk := [(0,.i .i64),(1,.i .i64),(5,.b),(6,.b)]
noncomputable def o11 := ob Try.f170 [.r,.r,.r,.l,.l]
def B11 (P : PT) (x0 x1 : Int) (x5 x6 : Bool) (H : AHeap) : Prop :=
  pif x5 (B10 P x6 H) (B7 P x0 x1 x6 H)
theorem q11 (P : PT) : QB Try.prog T0 20 o11 (cnd 11 (En 20 k3 (B10 P)) (En 20 k2 (B7 P))) k4 (B11 P) := fun _ _ _ _ _ _  => by kernel_rfl
abbrev k5 : Sk := [(0,.i .i64),(1,.i .i64),(5,.b)]
noncomputable def o12 := ob Try.f170 [.r,.r,.l]
def B12 (P : PT) (x0 x1 : Int) (x5 : Bool) (H : AHeap) : Prop :=
  AC Try.prog T0 188 [(Value.int .i64 x1)] H (fun v1 H2 => asB v1 (fun v3 => B11 P x0 x1 x5 v3 H2))
theorem q12 (P : PT) : QB Try.prog T0 20 o12 (En 20 k4 (B11 P)) k5 (B12 P) := fun _ _ _ _ _  => by kernel_rfl
noncomputable def o13 := ob Try.f170 [.r,.l]
def B13 (P : PT) (x0 x1 : Int) (H : AHeap) : Prop :=
  AC Try.prog T0 188 [(Value.int .i64 x0)] H (fun v1 H2 => asB v1 (fun v3 => B12 P x0 x1 v3 H2))
theorem q13 (P : PT) : QB Try.prog T0 20 o13 (En 20 k5 (B12 P)) k1 (B13 P) := fun _ _ _ _  => by kernel_rfl
noncomputable def o14 := ob Try.f170 [.l]
def B14 (P : PT) (x0 x1 : Int) (H : AHeap) : Prop :=
  B13 P x0 x1 H
theorem q14 (P : PT) : QB Try.prog T0 20 o14 (En 20 k1 (B13 P)) k1 (B14 P) := fun _ _ _ _  => by kernel_rfl
noncomputable def code : Code := (.seq (.region 0 ⟨o14⟩ false) (.seq (.region 1 ⟨o13⟩ false) (.seq (.region 2 ⟨o12⟩ false) (.seq (.seq (.region 3 ⟨o11⟩ false) (.cond (.tmp 11) (.seq (.seq (.region 4 ⟨o10⟩ false) (.cond (.tmp 12) (.seq (.region 5 ⟨o9⟩ false) .ret) .skip)) (.seq (.region 6 ⟨o8⟩ false) .ret)) .skip)) (.seq (.seq (.region 7 ⟨o7⟩ false) (.cond (.tmp 13) (.seq (.region 8 ⟨o6⟩ false) .ret) .skip)) (.seq (.seq (.region 9 ⟨o5⟩ false) (.cond (.tmp 16) (.seq (.region 10 ⟨o4⟩ false) .ret) .skip)) (.seq (.seq (.region 11 ⟨o3⟩ false) (.cond (.tmp 19) (.seq (.region 12 ⟨o2⟩ false) .ret) .skip)) (.seq (.region 13 ⟨o1⟩ false) .ret))))))))
theorem body : Try.f170.body = some code := by kernel_rfl
theorem main (P : PT) : ∀ env H, (En 20 k1 (B14 P)) env H → AW Try.prog T0 code env H (mkQ (ret P) (fun _ _ _ => False) (ret P)) :=
  (r_seq (rB T0_ok (q14 P)) (r_seq (rB T0_ok (q13 P)) (r_seq (rB T0_ok (q12 P)) (r_seq (r_seq (rB T0_ok (q11 P)) (r_cond rfl (r_seq (r_seq (rB T0_ok (q10 P)) (r_cond rfl (r_seq (rB T0_ok (q9 P)) r_ret) r_skip)) (r_seq (rB T0_ok (q8 P)) r_ret)) r_skip)) (r_seq (r_seq (rB T0_ok (q7 P)) (r_cond rfl (r_seq (rB T0_ok (q6 P)) r_ret) r_skip)) (r_seq (r_seq (rB T0_ok (q5 P)) (r_cond rfl (r_seq (rB T0_ok (q4 P)) r_ret) r_skip)) (r_seq (r_seq (rB T0_ok (q3 P)) (r_cond rfl (r_seq (rB T0_ok (q2 P)) r_ret) r_skip)) (r_seq (rB T0_ok (q1 P)) r_ret))))))))
theorem ac (P : PT) (x0 x1 : Int) (H : AHeap) (h : B14 P x0 x1 H) : AC Try.prog T0 170 [(Value.int .i64 x0), (Value.int .i64 x1)] H P :=
  r_fn T0_ok (c := code) (n := 20) Try.func170 body (by kernel_rfl) (main P) (En_mk (x0, x1, ()) (by kernel_rfl) ⟨by kernel_rfl, by kernel_rfl, trivial⟩ h)

end F170
-- slices.Compare[[]int64,int64]
namespace F171
noncomputable def ret (P : PT) : EP := retE T0 36 Try.f171 P
abbrev k0 : Sk := []
noncomputable def o1 := ob Try.f171 [.r,.r,.r,.l]
def B1 (P : PT) (H : AHeap) : Prop :=
  P (Value.int .i64 0) H
theorem q1 (P : PT) : QB Try.prog T0 36 o1 (ret P) k0 (B1 P) := fun _ _  => by kernel_rfl
noncomputable def o2 := ob Try.f171 [.r,.r,.l,.r,.l,.l]
def B2 (P : PT) (H : AHeap) : Prop :=
  P (Value.int .i64 (-1)) H
theorem q2 (P : PT) : QB Try.prog T0 36 o2 (ret P) k0 (B2 P) := fun _ _  => by kernel_rfl
abbrev k1 : Sk := [(0,.v),(1,.v)]
noncomputable def o3 := ob Try.f171 [.r,.r,.l,.l]
def B3 (P : PT) (x0 x1 : Value) (H : AHeap) : Prop :=
  lenK x0 (fun n1 => lenK x1 (fun n2 => pif (decide (((n1 : Int) : Int) < (n2 : Int))) (B2 P H) (B1 P H)))
theorem q3 (P : PT) : QB Try.prog T0 36 o3 (cnd 35 (En 36 k0 (B2 P)) (En 36 k0 (B1 P))) k1 (B3 P) := fun _ _ _ _  => by kernel_rfl
abbrev k2 : Sk := [(0,.v),(1,.v),(9,.v),(10,.i .i64),(11,.i .i64)]
noncomputable def o5 := ob Try.f171 [.r,.l,.r,.l,.l,.r,.r,.r]
def B5 (P : PT) (N4 : NTy k2 Pr) (x0 x1 x9 : Value) (x10 x11 : Int) (H : AHeap) : Prop :=
  N4 x0 x1 x9 x10 (IntKind.i64.wrap (x11 + 1)) H
theorem q5 (P : PT) (N4 : NTy k2 Pr) : QB Try.prog T0 36 o5 (En 36 k2 N4) k2 (B5 P N4) := fun _ _ _ _ _ _ _  => by kernel_rfl
abbrev k3 : Sk := [(8,.i .i64)]
noncomputable def o6 := ob Try.f171 [.r,.l,.r,.l,.l,.r,.r,.l,.l,.r,.r,.r,.r,.r,.l,.l]
def B6 (P : PT) (N4 : NTy k2 Pr) (x8 : Int) (H : AHeap) : Prop :=
  P (Value.int .i64 x8) H
theorem q6 (P : PT) (N4 : NTy k2 Pr) : QB Try.prog T0 36 o6 (ret P) k3 (B6 P N4) := fun _ _ _  => by kernel_rfl
abbrev k4 : Sk := [(0,.v),(1,.v),(8,.i .i64),(9,.v),(10,.i .i64),(11,.i .i64)]
noncomputable def o7 := ob Try.f171 [.r,.l,.r,.l,.l,.r,.r,.l,.l,.r,.r,.r,.r,.l]
def B7 (P : PT) (N4 : NTy k2 Pr) (x0 x1 : Value) (x8 : Int) (x9 : Value) (x10 x11 : Int) (H : AHeap) : Prop :=
  pif ((x8 : Int) != 0) (B6 P N4 x8 H) (B5 P N4 x0 x1 x9 x10 x11 H)
theorem q7 (P : PT) (N4 : NTy k2 Pr) : QB Try.prog T0 36 o7 (cnd 28 (En 36 k3 (B6 P N4)) (En 36 k2 (B5 P N4))) k4 (B7 P N4) := fun _ _ _ _ _ _ _ _  => by kernel_rfl
abbrev k5 : Sk := [(0,.v),(1,.v),(6,.i .i64),(7,.i .i64),(9,.v),(10,.i .i64),(11,.i .i64)]
noncomputable def o8 := ob Try.f171 [.r,.l,.r,.l,.l,.r,.r,.l,.l,.r,.r,.r,.l]
def B8 (P : PT) (N4 : NTy k2 Pr) (x0 x1 : Value) (x6 x7 : Int) (x9 : Value) (x10 x11 : Int) (H : AHeap) : Prop :=
  AC Try.prog T0 170 [(Value.int .i64 x6), (Value.int .i64 x7)] H (fun v1 H2 => asI .i64 v1 (fun v3 => B7 P N4 x0 x1 v3 x9 x10 x11 H2))
theorem q8 (P : PT) (N4 : NTy k2 Pr) : QB Try.prog T0 36 o8 (En 36 k4 (B7 P N4)) k5 (B8 P N4) := fun _ _ _ _ _ _ _ _ _  => by kernel_rfl
abbrev k6 : Sk := [(0,.v),(1,.v),(5,.i .i64),(6,.i .i64),(9,.v),(10,.i .i64),(11,.i .i64)]
noncomputable def o9 := ob Try.f171 [.r,.l,.r,.l,.l,.r,.r,.l,.l,.r,.r,.l]
def B9 (P : PT) (N4 : NTy k2 Pr) (x0 x1 : Value) (x5 x6 : Int) (x9 : Value) (x10 x11 : Int) (H : AHeap) : Prop :=
  idxK x1 x5 1 (fun b1 o2 => ldI .i64 H b1 o2 (fun v3 => B8 P N4 x0 x1 x6 v3 x9 x10 x11 H))
theorem q9 (P : PT) (N4 : NTy k2 Pr) : QB Try.prog T0 36 o9 (En 36 k5 (B8 P N4)) k6 (B9 P N4) := fun _ _ _ _ _ _ _ _ _  => by kernel_rfl
noncomputable def o10 := ob Try.f171 [.r,.l,.r,.l,.l,.r,.r,.l,.l,.r,.l,.r,.l,.l]
def B10 (P : PT) (N4 : NTy k2 Pr) (H : AHeap) : Prop :=
  P (Value.int .i64 1) H
theorem q10 (P : PT) (N4 : NTy k2 Pr) : QB Try.prog T0 36 o10 (ret P) k0 (B10 P N4) := fun _ _  => by kernel_rfl
noncomputable def o11 := ob Try.f171 [.r,.l,.r,.l,.l,.r,.r,.l,.l,.r,.l,.l]
def B11 (P : PT) (N4 : NTy k2 Pr) (x0 x1 : Value) (x5 x6 : Int) (x9 : Value) (x10 x11 : Int) (H : AHeap) : Prop :=
  lenK x1 (fun n1 => pif (decide ((x5 : Int) ≥ (n1 : Int))) (B10 P N4 H) (B9 P N4 x0 x1 x5 x6 x9 x10 x11 H))
theorem q11 (P : PT) (N4 : NTy k2 Pr) : QB Try.prog T0 36 o11 (cnd 19 (En 36 k0 (B10 P N4)) (En 36 k6 (B9 P N4))) k6 (B11 P N4) := fun _ _ _ _ _ _ _ _ _  => by kernel_rfl
noncomputable def o12 := ob Try.f171 [.r,.l,.r,.l,.l,.r,.r,.l,.l,.l]
def B12 (P : PT) (N4 : NTy k2 Pr) (x0 x1 x9 : Value) (x10 x11 : Int) (H : AHeap) : Prop :=
  idxK x9 x11 1 (fun b1 o2 => ldI .i64 H b1 o2 (fun v3 => B11 P N4 x0 x1 x11 v3 x9 x10 x11 H))
theorem q12 (P : PT) (N4 : NTy k2 Pr) : QB Try.prog T0 36 o12 (En 36 k6 (B11 P N4)) k2 (B12 P N4) := fun _ _ _ _ _ _ _  => by kernel_rfl
noncomputable def o13 := ob Try.f171 [.r,.l,.r,.l,.l,.l]
def B13 (P : PT) (N4 : NTy k2 Pr) (x0 x1 x9 : Value) (x10 x11 : Int) (H : AHeap) : Prop :=
  pif (decide ((x11 : Int) < x10)) (B12 P N4 x0 x1 x9 x10 x11 H) (B3 P x0 x1 H)
theorem q13 (P : PT) (N4 : NTy k2 Pr) : QB Try.prog T0 36 o13 (cnd 12 (En 36 k2 (B12 P N4)) (En 36 k1 (B3 P))) k2 (B13 P N4) := fun _ _ _ _ _ _ _  => by kernel_rfl
def L4 (P : PT) (x0 x1 x9 : Value) (x10 x11 : Int) (H : AHeap) : Prop :=
  ∃ (I : NTy k2 Pr) (μ : NTy k2 (AHeap → Nat)), I x0 x1 x9 x10 x11 H ∧ ∀ y0 y1 y9 y10 y11 G, I y0 y1 y9 y10 y11 G → B13 P (fun z0 z1 z9 z10 z11 G' => I z0 z1 z9 z10 z11 G' ∧ μ z0 z1 z9 z10 z11 G' < μ y0 y1 y9 y10 y11 G) y0 y1 y9 y10 y11 G
theorem l4 (P : PT) : LQ k2 (L4 P) (B13 P) := fun ⟨_,_,_,_,_,_⟩ _ ⟨I, μ, h0, hI⟩ => ⟨apT _ I, apT _ μ, h0, fun ⟨_,_,_,_,_,_⟩ _ h => hI _ _ _ _ _ _  h⟩
noncomputable def o14 := ob Try.f171 [.r,.l,.l]
def B14 (P : PT) (x0 x1 : Value) (H : AHeap) : Prop :=
  lenK x0 (fun n1 => L4 P x0 x1 x0 (n1 : Int) 0 H)
theorem q14 (P : PT) : QB Try.prog T0 36 o14 (En 36 k2 (L4 P)) k1 (B14 P) := fun _ _ _ _  => by kernel_rfl
noncomputable def o15 := ob Try.f171 [.l]
def B15 (P : PT) (x0 x1 : Value) (H : AHeap) : Prop :=
  B14 P x0 x1 H
theorem q15 (P : PT) : QB Try.prog T0 36 o15 (En 36 k1 (B14 P)) k1 (B15 P) := fun _ _ _ _  => by kernel_rfl
noncomputable def code : Code := (.seq (.region 0 ⟨o15⟩ false) (.seq (.seq (.region 1 ⟨o14⟩ false) (.block 0 (.loop (.seq (.region 2 ⟨o13⟩ false) (.seq (.cond (.tmp 12) .skip (.exit 0)) (.seq (.block 1 (.seq (.region 3 ⟨o12⟩ false) (.seq (.seq (.region 4 ⟨o11⟩ false) (.cond (.tmp 19) (.seq (.region 5 ⟨o10⟩ false) .ret) .skip)) (.seq (.region 6 ⟨o9⟩ false) (.seq (.region 7 ⟨o8⟩ false) (.seq (.region 8 ⟨o7⟩ false) (.cond (.tmp 28) (.seq (.region 9 ⟨o6⟩ false) .ret) .skip))))))) (.region 10 ⟨o5⟩ false))))))) (.seq (.seq (.region 11 ⟨o3⟩ false) (.cond (.tmp 35) (.seq (.region 12 ⟨o2⟩ false) .ret) .skip)) (.seq (.region 13 ⟨o1⟩ false) .ret))))
theorem body : Try.f171.body = some code := by kernel_rfl
theorem main (P : PT) : ∀ env H, (En 36 k1 (B15 P)) env H → AW Try.prog T0 code env H (mkQ (ret P) (fun _ _ _ => False) (ret P)) :=
  (r_seq (rB T0_ok (q15 P)) (r_seq (r_seq (rB T0_ok (q14 P)) (r_block (rL (l4 P) (fun N4 => (r_seq (rB T0_ok (q13 P N4)) (r_seq (r_cond rfl r_skip (r_exit (fun _ _ h => h))) (r_seq (r_block (r_seq (rB T0_ok (q12 P N4)) (r_seq (r_seq (rB T0_ok (q11 P N4)) (r_cond rfl (r_seq (rB T0_ok (q10 P N4)) r_ret) r_skip)) (r_seq (rB T0_ok (q9 P N4)) (r_seq (rB T0_ok (q8 P N4)) (r_seq (rB T0_ok (q7 P N4)) (r_cond rfl (r_seq (rB T0_ok (q6 P N4)) r_ret) r_skip))))))) (rB T0_ok (q5 P N4))))))))) (r_seq (r_seq (rB T0_ok (q3 P)) (r_cond rfl (r_seq (rB T0_ok (q2 P)) r_ret) r_skip)) (r_seq (rB T0_ok (q1 P)) r_ret))))
theorem ac (P : PT) (x0 x1 : Value) (H : AHeap) (h : B15 P x0 x1 H) : AC Try.prog T0 171 [x0, x1] H P :=
  r_fn T0_ok (c := code) (n := 36) Try.func171 body (by kernel_rfl) (main P) (En_mk (x0, x1, ()) (by kernel_rfl) ⟨by kernel_rfl, by kernel_rfl, trivial⟩ h)

end F171
-- loop.example/g01329/spec.l01Sort
namespace F180
noncomputable def ret (P : PT) : EP := retE T0 69 Try.f180 P
abbrev k0 : Sk := [(3,.v)]
noncomputable def o1 := ob Try.f180 [.r,.r,.r,.l]
def B1 (P : PT) (x3 : Value) (H : AHeap) : Prop :=
  P x3 H
theorem q1 (P : PT) : QB Try.prog T0 69 o1 (ret P) k0 (B1 P) := fun _ _ _  => by kernel_rfl
abbrev k1 : Sk := [(0,.v),(3,.v),(4,.i .i64)]
noncomputable def o3 := ob Try.f180 [.r,.r,.l,.r,.l,.l,.r,.r]
def B3 (P : PT) (N2 : NTy k1 Pr) (x0 x3 : Value) (x4 : Int) (H : AHeap) : Prop :=
  N2 x0 x3 (IntKind.i64.wrap (x4 + 1)) H
theorem q3 (P : PT) (N2 : NTy k1 Pr) : QB Try.prog T0 69 o3 (En 69 k1 N2) k1 (B3 P N2) := fun _ _ _ _ _  => by kernel_rfl
abbrev k2 : Sk := [(0,.v),(3,.v),(4,.i .i64),(5,.x),(6,.i .i64)]
noncomputable def o4 := ob Try.f180 [.r,.r,.l,.r,.l,.l,.r,.l,.l,.r,.r,.r]
def B4 (P : PT) (N2 : NTy k1 Pr) (x0 x3 : Value) (x4 : Int) (x5 : Nat) (x6 : Int) (H : AHeap) : Prop :=
  ldI .i64 H x5 0 (fun v1 => ldI .i64 H x5 1 (fun v2 => idxK x3 x6 2 (fun b3 o4 => stK H b3 o4 [(Value.int .i64 v1), (Value.int .i64 v2)] (fun H5 => B3 P N2 x0 x3 x4 H5))))
theorem q4 (P : PT) (N2 : NTy k1 Pr) : QB Try.prog T0 69 o4 (En 69 k1 (B3 P N2)) k2 (B4 P N2) := fun _ _ _ _ _ _ _  => by kernel_rfl
noncomputable def o6 := ob Try.f180 [.r,.r,.l,.r,.l,.l,.r,.l,.l,.r,.r,.l,.l,.l,.r,.l,.r]
def B6 (P : PT) (N2 : NTy k1 Pr) (N5 : NTy k2 Pr) (x0 x3 : Value) (x4 : Int) (x5 : Nat) (x6 : Int) (H : AHeap) : Prop :=
  N5 x0 x3 x4 x5 (IntKind.i64.wrap (x6 - 1)) H
theorem q6 (P : PT) (N2 : NTy k1 Pr) (N5 : NTy k2 Pr) : QB Try.prog T0 69 o6 (En 69 k2 N5) k2 (B6 P N2 N5) := fun _ _ _ _ _ _ _  => by kernel_rfl
noncomputable def o7 := ob Try.f180 [.r,.r,.l,.r,.l,.l,.r,.l,.l,.r,.r,.l,.l,.l,.r,.l,.l]
def B7 (P : PT) (N2 : NTy k1 Pr) (N5 : NTy k2 Pr) (x0 x3 : Value) (x4 : Int) (x5 : Nat) (x6 : Int) (H : AHeap) : Prop :=
  idxK x3 (IntKind.i64.wrap (x6 - 1)) 2 (fun b1 o2 => ldI .i64 H b1 o2 (fun v3 => ldI .i64 H b1 (o2 + 1) (fun v4 => idxK x3 x6 2 (fun b5 o6 => stK H b5 o6 [(Value.int .i64 v3), (Value.int .i64 v4)] (fun H7 => B6 P N2 N5 x0 x3 x4 x5 x6 H7)))))
theorem q7 (P : PT) (N2 : NTy k1 Pr) (N5 : NTy k2 Pr) : QB Try.prog T0 69 o7 (En 69 k2 (B6 P N2 N5)) k2 (B7 P N2 N5) := fun _ _ _ _ _ _ _  => by kernel_rfl
noncomputable def o8 := ob Try.f180 [.r,.r,.l,.r,.l,.l,.r,.l,.l,.r,.r,.l,.l,.l,.l,.l]
def B8 (P : PT) (N2 : NTy k1 Pr) (N5 : NTy k2 Pr) (x0 x3 : Value) (x4 : Int) (x5 : Nat) (x6 : Int) (H : AHeap) : Prop :=
  pif (decide ((x6 : Int) > 0)) (ldI .i64 H x5 0 (fun v1 => ldI .i64 H x5 1 (fun v2 => idxK x3 (IntKind.i64.wrap (x6 - 1)) 2 (fun b3 o4 => ldI .i64 H b3 o4 (fun v5 => ldI .i64 H b3 (o4 + 1) (fun v6 => AC Try.prog T0 129 [(Value.agg ⟨[(Value.int .i64 v1), (Value.int .i64 v2)]⟩), (Value.agg ⟨[(Value.int .i64 v5), (Value.int .i64 v6)]⟩)] H (fun v7 H8 => asB v7 (fun v9 => pif v9 (B7 P N2 N5 x0 x3 x4 x5 x6 H8) (B4 P N2 x0 x3 x4 x5 x6 H8))))))))) (B4 P N2 x0 x3 x4 x5 x6 H)
theorem q8 (P : PT) (N2 : NTy k1 Pr) (N5 : NTy k2 Pr) : QD Try.prog T0 69 o8 [(0, false), (1, false), (2, false), (3, false), (4, false), (5, false), (6, false), (7, false), (8, false), (9, false), (10, false)] (cnd 53 (En 69 k2 (B7 P N2 N5)) (En 69 k2 (B4 P N2))) k2 (B8 P N2 N5) := fun _ _ _ _ _ _ _  => by kernel_rfl
def L5 (P : PT) (N2 : NTy k1 Pr) (x0 x3 : Value) (x4 : Int) (x5 : Nat) (x6 : Int) (H : AHeap) : Prop :=
  ∃ (I : NTy k2 Pr) (μ : NTy k2 (AHeap → Nat)), I x0 x3 x4 x5 x6 H ∧ ∀ y0 y3 y4 y5 y6 G, I y0 y3 y4 y5 y6 G → B8 P N2 (fun z0 z3 z4 z5 z6 G' => I z0 z3 z4 z5 z6 G' ∧ μ z0 z3 z4 z5 z6 G' < μ y0 y3 y4 y5 y6 G) y0 y3 y4 y5 y6 G
theorem l5 (P : PT) (N2 : NTy k1 Pr) : LQ k2 (L5 P N2) (B8 P N2) := fun ⟨_,_,_,_,_,_⟩ _ ⟨I, μ, h0, hI⟩ => ⟨apT _ I, apT _ μ, h0, fun ⟨_,_,_,_,_,_⟩ _ h => hI _ _ _ _ _ _  h⟩
noncomputable def o9 := ob Try.f180 [.r,.r,.l,.r,.l,.l,.r,.l,.l,.r,.l]
def B9 (P : PT) (N2 : NTy k1 Pr) (x0 x3 : Value) (x4 : Int) (x5 : Nat) (x6 : Int) (H : AHeap) : Prop :=
  ldI .i64 H x5 0 (fun v1 => ldI .i64 H x5 1 (fun v2 => newK H [(Value.int .i64 v1), (Value.int .i64 v2)] 67 (fun b3 H4 => apK T0 67 H4 x3 (Value.slice (some ⟨b3, 0, none⟩) 1 (1 + 1)) (fun v5 H6 => L5 P N2 x0 v5 x4 x5 x6 H6))))
theorem q9 (P : PT) (N2 : NTy k1 Pr) : QB Try.prog T0 69 o9 (En 69 k2 (L5 P N2)) k2 (B9 P N2) := fun _ _ _ _ _ _ _  => by kernel_rfl
noncomputable def o10 := ob Try.f180 [.r,.r,.l,.r,.l,.l,.r,.l,.l,.l]
def B10 (P : PT) (N2 : NTy k1 Pr) (x0 x3 : Value) (x4 : Int) (H : AHeap) : Prop :=
  idxK x0 x4 2 (fun b1 o2 => ldI .i64 H b1 o2 (fun v3 => idxK x0 x4 2 (fun b4 o5 => ldI .i64 H b4 (o5 + 1) (fun v6 => idxK x0 x4 2 (fun b7 o8 => ldI .i64 H b7 o8 (fun v9 => idxK x0 x4 2 (fun b10 o11 => ldI .i64 H b10 (o11 + 1) (fun v12 => lenK x3 (fun n13 => newK H [(Value.int .i64 0), (Value.int .i64 0)] 67 (fun b14 H15 => stK H15 b14 0 [(Value.int .i64 (if v6 < v3 then v6 else v3)), (Value.int .i64 (if v12 > v9 then v12 else v9))] (fun H16 => B9 P N2 x0 x3 x4 b14 (n13 : Int) H16)))))))))))
theorem q10 (P : PT) (N2 : NTy k1 Pr) : QD Try.prog T0 69 o10 [(0, false), (1, false), (2, false), (3, false), (4, false), (5, false), (6, false), (7, false), (8, false), (9, false), (10, false), (11, false), (12, false), (13, false), (14, false), (15, false), (16, false), (17, false), (18, false), (19, false), (20, false), (21, false), (22, false), (23, false), (24, false), (25, false), (26, false), (27, false)] (En 69 k2 (B9 P N2)) k1 (B10 P N2) := fun _ _ _ _ _  => by kernel_rfl
noncomputable def o11 := ob Try.f180 [.r,.r,.l,.r,.l,.l,.l,.l]
def B11 (P : PT) (N2 : NTy k1 Pr) (x0 x3 : Value) (x4 : Int) (H : AHeap) : Prop :=
  lenK x0 (fun n1 => pif (decide ((x4 : Int) < (n1 : Int))) (B10 P N2 x0 x3 x4 H) (B1 P x3 H))
theorem q11 (P : PT) (N2 : NTy k1 Pr) : QB Try.prog T0 69 o11 (cnd 11 (En 69 k1 (B10 P N2)) (En 69 k0 (B1 P))) k1 (B11 P N2) := fun _ _ _ _ _  => by kernel_rfl
def L2 (P : PT) (x0 x3 : Value) (x4 : Int) (H : AHeap) : Prop :=
  ∃ (I : NTy k1 Pr) (μ : NTy k1 (AHeap → Nat)), I x0 x3 x4 H ∧ ∀ y0 y3 y4 G, I y0 y3 y4 G → B11 P (fun z0 z3 z4 G' => I z0 z3 z4 G' ∧ μ z0 z3 z4 G' < μ y0 y3 y4 G) y0 y3 y4 G
theorem l2 (P : PT) : LQ k1 (L2 P) (B11 P) := fun ⟨_,_,_,_⟩ _ ⟨I, μ, h0, hI⟩ => ⟨apT _ I, apT _ μ, h0, fun ⟨_,_,_,_⟩ _ h => hI _ _ _ _  h⟩
abbrev k3 : Sk := [(0,.v),(3,.v)]
noncomputable def o12 := ob Try.f180 [.r,.r,.l,.l]
def B12 (P : PT) (x0 x3 : Value) (H : AHeap) : Prop :=
  L2 P x0 x3 0 H
theorem q12 (P : PT) : QB Try.prog T0 69 o12 (En 69 k1 (L2 P)) k3 (B12 P) := fun _ _ _ _  => by kernel_rfl
abbrev k4 : Sk := [(0,.v)]
noncomputable def o13 := ob Try.f180 [.r,.l]
def B13 (P : PT) (x0 : Value) (H : AHeap) : Prop :=
  newK H [] 67 (fun b1 H2 => B12 P x0 (Value.slice (some ⟨b1, 0, none⟩) 0 (0 + 1)) H2)
theorem q13 (P : PT) : QB Try.prog T0 69 o13 (En 69 k3 (B12 P)) k4 (B13 P) := fun _ _ _  => by kernel_rfl
noncomputable def o14 := ob Try.f180 [.l]
def B14 (P : PT) (x0 : Value) (H : AHeap) : Prop :=
  B13 P x0 H
theorem q14 (P : PT) : QB Try.prog T0 69 o14 (En 69 k4 (B13 P)) k4 (B14 P) := fun _ _ _  => by kernel_rfl
noncomputable def code : Code := (.seq (.region 0 ⟨o14⟩ false) (.seq (.region 1 ⟨o13⟩ false) (.seq (.seq (.region 2 ⟨o12⟩ false) (.block 0 (.loop (.seq (.seq (.region 3 ⟨o11⟩ false) (.cond (.tmp 11) .skip (.exit 0))) (.seq (.block 1 (.seq (.region 5 ⟨o10⟩ true) (.seq (.region 6 ⟨o9⟩ false) (.seq (.block 2 (.loop (.seq (.seq (.region 7 ⟨o8⟩ true) (.cond (.tmp 53) .skip (.exit 2))) (.block 3 (.seq (.region 8 ⟨o7⟩ false) (.region 9 ⟨o6⟩ false)))))) (.region 10 ⟨o4⟩ false))))) (.region 4 ⟨o3⟩ false)))))) (.seq (.region 11 ⟨o1⟩ false) .ret))))
theorem body : Try.f180.body = some code := by kernel_rfl
theorem main (P : PT) : ∀ env H, (En 69 k4 (B14 P)) env H → AW Try.prog T0 code env H (mkQ (ret P) (fun _ _ _ => False) (ret P)) :=
  (r_seq (rB T0_ok (q14 P)) (r_seq (rB T0_ok (q13 P)) (r_seq (r_seq (rB T0_ok (q12 P)) (r_block (rL (l2 P) (fun N2 => (r_seq (r_seq (rB T0_ok (q11 P N2)) (r_cond rfl r_skip (r_exit (fun _ _ h => h)))) (r_seq (r_block (r_seq (rD T0_ok mixed [(0, false), (1, false), (2, false), (3, false), (4, false), (5, false), (6, false), (7, false), (8, false), (9, false), (10, false), (11, false), (12, false), (13, false), (14, false), (15, false), (16, false), (17, false), (18, false), (19, false), (20, false), (21, false), (22, false), (23, false), (24, false), (25, false), (26, false), (27, false)] (by kernel_rfl) (q10 P N2)) (r_seq (rB T0_ok (q9 P N2)) (r_seq (r_block (rL (l5 P N2) (fun N5 => (r_seq (r_seq (rD T0_ok mixed [(0, false), (1, false), (2, false), (3, false), (4, false), (5, false), (6, false), (7, false), (8, false), (9, false), (10, false)] (by kernel_rfl) (q8 P N2 N5)) (r_cond rfl r_skip (r_exit (fun _ _ h => h)))) (r_block (r_seq (rB T0_ok (q7 P N2 N5)) (rB T0_ok (q6 P N2 N5)))))))) (rB T0_ok (q4 P N2)))))) (rB T0_ok (q3 P N2)))))))) (r_seq (rB T0_ok (q1 P)) r_ret))))
theorem ac (P : PT) (x0 : Value) (H : AHeap) (h : B14 P x0 H) : AC Try.prog T0 180 [x0] H P :=
  r_fn T0_ok (c := code) (n := 69) Try.func180 body (by kernel_rfl) (main P) (En_mk (x0, ()) (by kernel_rfl) ⟨by kernel_rfl, trivial⟩ h)

end F180
-- slices.pdqsortCmpFunc[loop.example/g01329/impl.Edge]
namespace F182
noncomputable def ret (P : PT) : EP := retE T0 148 Try.f182 P
abbrev k0 : Sk := [(0,.v),(1,.i .i64),(2,.i .i64),(3,.i .i64),(4,.v),(10,.b),(11,.b)]
abbrev k1 : Sk := [(0,.v),(2,.i .i64),(3,.i .i64),(4,.v),(10,.b),(11,.b),(16,.i .i64)]
noncomputable def o2 := ob Try.f182 [.r,.r,.l,.l,.l,.r,.r,.r,.r,.r,.r,.r,.r,.r,.r,.r,.r,.r,.l,.r,.r]
def B2 (P : PT) (N1 : NTy k0 Pr) (x0 : Value) (x2 x3 : Int) (x4 : Value) (x10 x11 : Bool) (x16 : Int) (H : AHeap) : Prop :=
  N1 x0 (IntKind.i64.wrap (x16 + 1)) x2 x3 x4 x10 x11 H
theorem q2 (P : PT) (N1 : NTy k0 Pr) : QB Try.prog T0 148 o2 (En 148 k0 N1) k1 (B2 P N1) := fun _ _ _ _ _ _ _ _ _  => by kernel_rfl
abbrev k2 : Sk := [(0,.v),(1,.i .i64),(2,.i .i64),(3,.i .i64),(4,.v),(10,.b),(11,.b),(16,.i .i64)]
noncomputable def o3 := ob Try.f182 [.r,.r,.l,.l,.l,.r,.r,.r,.r,.r,.r,.r,.r,.r,.r,.r,.r,.r,.l,.r,.l]
def B3 (P : PT) (N1 : NTy k0 Pr) (x0 : Value) (x1 x2 x3 : Int) (x4 : Value) (x10 x11 : Bool) (x16 : Int) (H : AHeap) : Prop :=
  AC Try.prog T0 182 [x0, (Value.int .i64 x1), (Value.int .i64 x16), (Value.int .i64 x3), x4] H (fun v1 H2 => asTup v1 (fun l3 => B2 P N1 x0 x2 x3 x4 x10 x11 x16 H2))
theorem q3 (P : PT) (N1 : NTy k0 Pr) : QB Try.prog T0 148 o3 (En 148 k1 (B2 P N1)) k2 (B3 P N1) := fun _ _ _ _ _ _ _ _ _ _  => by kernel_rfl
abbrev k3 : Sk := [(0,.v),(1,.i .i64),(2,.i .i64),(3,.i .i64),(4,.v),(11,.b),(16,.i .i64),(18,.i .i64),(20,.i .i64)]
noncomputable def o4 := ob Try.f182 [.r,.r,.l,.l,.l,.r,.r,.r,.r,.r,.r,.r,.r,.r,.r,.r,.r,.r,.l,.l]
def B4 (P : PT) (N1 : NTy k0 Pr) (x0 : Value) (x1 x2 x3 : Int) (x4 : Value) (x11 : Bool) (x16 x18 x20 : Int) (H : AHeap) : Prop :=
  B3 P N1 x0 x1 x2 x3 x4 (decide ((x18 : Int) ≥ x20)) x11 x16 H
theorem q4 (P : PT) (N1 : NTy k0 Pr) : QB Try.prog T0 148 o4 (En 148 k2 (B3 P N1)) k3 (B4 P N1) := fun _ _ _ _ _ _ _ _ _ _ _  => by kernel_rfl
abbrev k4 : Sk := [(0,.v),(1,.i .i64),(3,.i .i64),(4,.v),(10,.b),(11,.b),(16,.i .i64)]
noncomputable def o5 := ob Try.f182 [.r,.r,.l,.l,.l,.r,.r,.r,.r,.r,.r,.r,.r,.r,.r,.r,.r,.r,.r,.r,.r]
def B5 (P : PT) (N1 : NTy k0 Pr) (x0 : Value) (x1 x3 : Int) (x4 : Value) (x10 x11 : Bool) (x16 : Int) (H : AHeap) : Prop :=
  N1 x0 x1 x16 x3 x4 x10 x11 H
theorem q5 (P : PT) (N1 : NTy k0 Pr) : QB Try.prog T0 148 o5 (En 148 k0 N1) k4 (B5 P N1) := fun _ _ _ _ _ _ _ _ _  => by kernel_rfl
noncomputable def o6 := ob Try.f182 [.r,.r,.l,.l,.l,.r,.r,.r,.r,.r,.r,.r,.r,.r,.r,.r,.r,.r,.r,.r,.l]
def B6 (P : PT) (N1 : NTy k0 Pr) (x0 : Value) (x1 x2 x3 : Int) (x4 : Value) (x10 x11 : Bool) (x16 : Int) (H : AHeap) : Prop :=
  AC Try.prog T0 182 [x0, (Value.int .i64 (IntKind.i64.wrap (x16 + 1))), (Value.int .i64 x2), (Value.int .i64 x3), x4] H (fun v1 H2 => asTup v1 (fun l3 => B5 P N1 x0 x1 x3 x4 x10 x11 x16 H2))
theorem q6 (P : PT) (N1 : NTy k0 Pr) : QB Try.prog T0 148 o6 (En 148 k4 (B5 P N1)) k2 (B6 P N1) := fun _ _ _ _ _ _ _ _ _ _  => by kernel_rfl
abbrev k5 : Sk := [(0,.v),(1,.i .i64),(2,.i .i64),(3,.i .i64),(4,.v),(11,.b),(16,.i .i64),(19,.i .i64),(20,.i .i64)]
noncomputable def o7 := ob Try.f182 [.r,.r,.l,.l,.l,.r,.r,.r,.r,.r,.r,.r,.r,.r,.r,.r,.r,.r,.r,.l]
def B7 (P : PT) (N1 : NTy k0 Pr) (x0 : Value) (x1 x2 x3 : Int) (x4 : Value) (x11 : Bool) (x16 x19 x20 : Int) (H : AHeap) : Prop :=
  B6 P N1 x0 x1 x2 x3 x4 (decide ((x19 : Int) ≥ x20)) x11 x16 H
theorem q7 (P : PT) (N1 : NTy k0 Pr) : QB Try.prog T0 148 o7 (En 148 k2 (B6 P N1)) k5 (B7 P N1) := fun _ _ _ _ _ _ _ _ _ _ _  => by kernel_rfl
abbrev k6 : Sk := [(0,.v),(1,.i .i64),(2,.i .i64),(3,.i .i64),(4,.v),(11,.b),(16,.i .i64),(18,.i .i64),(19,.i .i64),(20,.i .i64)]
noncomputable def o8 := ob Try.f182 [.r,.r,.l,.l,.l,.r,.r,.r,.r,.r,.r,.r,.r,.r,.r,.r,.r,.l]
def B8 (P : PT) (N1 : NTy k0 Pr) (x0 : Value) (x1 x2 x3 : Int) (x4 : Value) (x11 : Bool) (x16 x18 x19 x20 : Int) (H : AHeap) : Prop :=
  pif (decide ((x18 : Int) < x19)) (B4 P N1 x0 x1 x2 x3 x4 x11 x16 x18 x20 H) (B7 P N1 x0 x1 x2 x3 x4 x11 x16 x19 x20 H)
theorem q8 (P : PT) (N1 : NTy k0 Pr) : QB Try.prog T0 148 o8 (cnd 125 (En 148 k3 (B4 P N1)) (En 148 k5 (B7 P N1))) k6 (B8 P N1) := fun _ _ _ _ _ _ _ _ _ _ _ _  => by kernel_rfl
abbrev k7 : Sk := [(0,.v),(1,.i .i64),(2,.i .i64),(3,.i .i64),(4,.v),(11,.b),(12,.i .i64),(16,.i .i64),(18,.i .i64),(19,.i .i64)]
noncomputable def o9 := ob Try.f182 [.r,.r,.l,.l,.l,.r,.r,.r,.r,.r,.r,.r,.r,.r,.r,.r,.l]
def B9 (P : PT) (N1 : NTy k0 Pr) (x0 : Value) (x1 x2 x3 : Int) (x4 : Value) (x11 : Bool) (x12 x16 x18 x19 : Int) (H : AHeap) : Prop :=
  B8 P N1 x0 x1 x2 x3 x4 x11 x16 x18 x19 (IntKind.i64.wrap (Int.tdiv x12 8)) H
theorem q9 (P : PT) (N1 : NTy k0 Pr) : QB Try.prog T0 148 o9 (En 148 k6 (B8 P N1)) k7 (B9 P N1) := fun _ _ _ _ _ _ _ _ _ _ _ _  => by kernel_rfl
abbrev k8 : Sk := [(0,.v),(1,.i .i64),(2,.i .i64),(3,.i .i64),(4,.v),(11,.b),(12,.i .i64),(16,.i .i64)]
noncomputable def o10 := ob Try.f182 [.r,.r,.l,.l,.l,.r,.r,.r,.r,.r,.r,.r,.r,.r,.r,.l]
def B10 (P : PT) (N1 : NTy k0 Pr) (x0 : Value) (x1 x2 x3 : Int) (x4 : Value) (x11 : Bool) (x12 x16 : Int) (H : AHeap) : Prop :=
  B9 P N1 x0 x1 x2 x3 x4 x11 x12 x16 (IntKind.i64.wrap (x16 - x1)) (IntKind.i64.wrap (x2 - x16)) H
theorem q10 (P : PT) (N1 : NTy k0 Pr) : QB Try.prog T0 148 o10 (En 148 k7 (B9 P N1)) k8 (B10 P N1) := fun _ _ _ _ _ _ _ _ _ _  => by kernel_rfl
abbrev k9 : Sk := [(0,.v),(1,.i .i64),(2,.i .i64),(3,.i .i64),(4,.v),(12,.i .i64),(16,.i .i64),(17,.b)]
noncomputable def o11 := ob Try.f182 [.r,.r,.l,.l,.l,.r,.r,.r,.r,.r,.r,.r,.r,.r,.l]
def B11 (P : PT) (N1 : NTy k0 Pr) (x0 : Value) (x1 x2 x3 : Int) (x4 : Value) (x12 x16 : Int) (x17 : Bool) (H : AHeap) : Prop :=
  B10 P N1 x0 x1 x2 x3 x4 x17 x12 x16 H
theorem q11 (P : PT) (N1 : NTy k0 Pr) : QB Try.prog T0 148 o11 (En 148 k8 (B10 P N1)) k9 (B11 P N1) := fun _ _ _ _ _ _ _ _ _ _  => by kernel_rfl
abbrev k10 : Sk := [(0,.v),(1,.i .i64),(2,.i .i64),(3,.i .i64),(4,.v),(12,.i .i64),(13,.i .i64)]
noncomputable def o12 := ob Try.f182 [.r,.r,.l,.l,.l,.r,.r,.r,.r,.r,.r,.r,.r,.l]
def B12 (P : PT) (N1 : NTy k0 Pr) (x0 : Value) (x1 x2 x3 : Int) (x4 : Value) (x12 x13 : Int) (H : AHeap) : Prop :=
  AC Try.prog T0 206 [x0, (Value.int .i64 x1), (Value.int .i64 x2), (Value.int .i64 x13), x4] H (fun v1 H2 => tup2 v1 (fun v3 v4 => asI .i64 v3 (fun v5 => asB v4 (fun v6 => B11 P N1 x0 x1 x2 x3 x4 x12 v5 v6 H2))))
theorem q12 (P : PT) (N1 : NTy k0 Pr) : QB Try.prog T0 148 o12 (En 148 k9 (B11 P N1)) k10 (B12 P N1) := fun _ _ _ _ _ _ _ _ _  => by kernel_rfl
abbrev k11 : Sk := [(0,.v),(2,.i .i64),(3,.i .i64),(4,.v),(10,.b),(11,.b),(15,.i .i64)]
noncomputable def o13 := ob Try.f182 [.r,.r,.l,.l,.l,.r,.r,.r,.r,.r,.r,.r,.l,.r,.l,.r,.l]
def B13 (P : PT) (N1 : NTy k0 Pr) (x0 : Value) (x2 x3 : Int) (x4 : Value) (x10 x11 : Bool) (x15 : Int) (H : AHeap) : Prop :=
  N1 x0 x15 x2 x3 x4 x10 x11 H
theorem q13 (P : PT) (N1 : NTy k0 Pr) : QB Try.prog T0 148 o13 (En 148 k0 N1) k11 (B13 P N1) := fun _ _ _ _ _ _ _ _ _  => by kernel_rfl
abbrev k12 : Sk := [(0,.v),(1,.i .i64),(2,.i .i64),(3,.i .i64),(4,.v),(10,.b),(11,.b),(13,.i .i64)]
noncomputable def o14 := ob Try.f182 [.r,.r,.l,.l,.l,.r,.r,.r,.r,.r,.r,.r,.l,.r,.l,.l]
def B14 (P : PT) (N1 : NTy k0 Pr) (x0 : Value) (x1 x2 x3 : Int) (x4 : Value) (x10 x11 : Bool) (x13 : Int) (H : AHeap) : Prop :=
  AC Try.prog T0 205 [x0, (Value.int .i64 x1), (Value.int .i64 x2), (Value.int .i64 x13), x4] H (fun v1 H2 => asI .i64 v1 (fun v3 => B13 P N1 x0 x2 x3 x4 x10 x11 v3 H2))
theorem q14 (P : PT) (N1 : NTy k0 Pr) : QB Try.prog T0 148 o14 (En 148 k11 (B13 P N1)) k12 (B14 P N1) := fun _ _ _ _ _ _ _ _ _ _  => by kernel_rfl
abbrev k13 : Sk := [(0,.v),(1,.i .i64),(2,.i .i64),(3,.i .i64),(4,.v),(10,.b),(11,.b),(12,.i .i64),(13,.i .i64)]
noncomputable def o15 := ob Try.f182 [.r,.r,.l,.l,.l,.r,.r,.r,.r,.r,.r,.r,.l,.l]
def B15 (P : PT) (N1 : NTy k0 Pr) (x0 : Value) (x1 x2 x3 : Int) (x4 : Value) (x10 x11 : Bool) (x12 x13 : Int) (H : AHeap) : Prop :=
  pif (decide ((x1 : Int) > 0)) (idxK x0 (IntKind.i64.wrap (x1 - 1)) 2 (fun b1 o2 => ldI .i64 H b1 o2 (fun v3 => ldI .i64 H b1 (o2 + 1) (fun v4 => idxK x0 x13 2 (fun b5 o6 => ldI .i64 H b5 o6 (fun v7 => ldI .i64 H b5 (o6 + 1) (fun v8 => callV Try.prog T0 x4 [(Value.agg ⟨[(Value.int .i64 v3), (Value.int .i64 v4)]⟩), (Value.agg ⟨[(Value.int .i64 v7), (Value.int .i64 v8)]⟩)] H (fun v9 H10 => asI .i64 v9 (fun v11 => pif (!(decide ((v11 : Int) < 0))) (B14 P N1 x0 x1 x2 x3 x4 x10 x11 x13 H10) (B12 P N1 x0 x1 x2 x3 x4 x12 x13 H10)))))))))) (B12 P N1 x0 x1 x2 x3 x4 x12 x13 H)
theorem q15 (P : PT) (N1 : NTy k0 Pr) : QD Try.prog T0 148 o15 [(0, false), (1, false), (2, false), (3, false), (4, false), (5, false), (6, false), (7, false), (8, false), (9, false), (10, false), (11, false), (12, false), (13, false), (14, false), (15, false), (16, false)] (cnd 97 (En 148 k12 (B14 P N1)) (En 148 k10 (B12 P N1))) k13 (B15 P N1) := fun _ _ _ _ _ _ _ _ _ _ _  => by kernel_rfl
noncomputable def o16 := ob Try.f182 [.r,.r,.l,.l,.l,.r,.r,.r,.r,.r,.r,.l,.r,.l,.l]
def B16 (P : PT) (N1 : NTy k0 Pr) (x0 : Value) (x1 x2 x3 : Int) (x4 : Value) (x10 x11 : Bool) (x12 x13 : Int) (H : AHeap) : Prop :=
  AC Try.prog T0 204 [x0, (Value.int .i64 x1), (Value.int .i64 x2), x4] H (fun v1 H2 => asB v1 (fun v3 => pif v3 (P (Value.tuple ⟨[]⟩) H2) (B15 P N1 x0 x1 x2 x3 x4 x10 x11 x12 x13 H2)))
theorem q16 (P : PT) (N1 : NTy k0 Pr) : QB Try.prog T0 148 o16 (cnd 80 (ret P) (En 148 k13 (B15 P N1))) k13 (B16 P N1) := fun _ _ _ _ _ _ _ _ _ _ _  => by kernel_rfl
abbrev k14 : Sk := [(0,.v),(1,.i .i64),(2,.i .i64),(3,.i .i64),(4,.v),(10,.b),(11,.b),(12,.i .i64),(13,.i .i64),(14,.i .i64)]
noncomputable def o17 := ob Try.f182 [.r,.r,.l,.l,.l,.r,.r,.r,.r,.r,.r,.l,.l]
def B17 (P : PT) (N1 : NTy k0 Pr) (x0 : Value) (x1 x2 x3 : Int) (x4 : Value) (x10 x11 : Bool) (x12 x13 x14 : Int) (H : AHeap) : Prop :=
  pif x10 (pif x11 (pif ((x14 : Int) == 1) (B16 P N1 x0 x1 x2 x3 x4 x10 x11 x12 x13 H) (B15 P N1 x0 x1 x2 x3 x4 x10 x11 x12 x13 H)) (B15 P N1 x0 x1 x2 x3 x4 x10 x11 x12 x13 H)) (B15 P N1 x0 x1 x2 x3 x4 x10 x11 x12 x13 H)
theorem q17 (P : PT) (N1 : NTy k0 Pr) : QB Try.prog T0 148 o17 (cnd 75 (En 148 k13 (B16 P N1)) (En 148 k13 (B15 P N1))) k14 (B17 P N1) := fun _ _ _ _ _ _ _ _ _ _ _ _  => by kernel_rfl
noncomputable def o18 := ob Try.f182 [.r,.r,.l,.l,.l,.r,.r,.r,.r,.r,.l,.r,.l,.r,.r]
def B18 (P : PT) (N1 : NTy k0 Pr) (x0 : Value) (x1 x2 x3 : Int) (x4 : Value) (x10 x11 : Bool) (x12 x13 : Int) (H : AHeap) : Prop :=
  B17 P N1 x0 x1 x2 x3 x4 x10 x11 x12 x13 1 H
theorem q18 (P : PT) (N1 : NTy k0 Pr) : QB Try.prog T0 148 o18 (En 148 k14 (B17 P N1)) k13 (B18 P N1) := fun _ _ _ _ _ _ _ _ _ _ _  => by kernel_rfl
noncomputable def o19 := ob Try.f182 [.r,.r,.l,.l,.l,.r,.r,.r,.r,.r,.l,.r,.l,.r,.l]
def B19 (P : PT) (N1 : NTy k0 Pr) (x0 : Value) (x1 x2 x3 : Int) (x4 : Value) (x10 x11 : Bool) (x12 x13 : Int) (H : AHeap) : Prop :=
  B18 P N1 x0 x1 x2 x3 x4 x10 x11 x12 (IntKind.i64.wrap ((IntKind.i64.wrap (x2 - 1)) - (IntKind.i64.wrap (x13 - x1)))) H
theorem q19 (P : PT) (N1 : NTy k0 Pr) : QB Try.prog T0 148 o19 (En 148 k13 (B18 P N1)) k13 (B19 P N1) := fun _ _ _ _ _ _ _ _ _ _ _  => by kernel_rfl
noncomputable def o20 := ob Try.f182 [.r,.r,.l,.l,.l,.r,.r,.r,.r,.r,.l,.r,.l,.l]
def B20 (P : PT) (N1 : NTy k0 Pr) (x0 : Value) (x1 x2 x3 : Int) (x4 : Value) (x10 x11 : Bool) (x12 x13 : Int) (H : AHeap) : Prop :=
  AC Try.prog T0 203 [x0, (Value.int .i64 x1), (Value.int .i64 x2), x4] H (fun v1 H2 => asTup v1 (fun l3 => B19 P N1 x0 x1 x2 x3 x4 x10 x11 x12 x13 H2))
theorem q20 (P : PT) (N1 : NTy k0 Pr) : QB Try.prog T0 148 o20 (En 148 k13 (B19 P N1)) k13 (B20 P N1) := fun _ _ _ _ _ _ _ _ _ _ _  => by kernel_rfl
noncomputable def o21 := ob Try.f182 [.r,.r,.l,.l,.l,.r,.r,.r,.r,.r,.l,.l]
def B21 (P : PT) (N1 : NTy k0 Pr) (x0 : Value) (x1 x2 x3 : Int) (x4 : Value) (x10 x11 : Bool) (x12 x13 x14 : Int) (H : AHeap) : Prop :=
  pif ((x14 : Int) == 2) (B20 P N1 x0 x1 x2 x3 x4 x10 x11 x12 x13 H) (B17 P N1 x0 x1 x2 x3 x4 x10 x11 x12 x13 x14 H)
theorem q21 (P : PT) (N1 : NTy k0 Pr) : QB Try.prog T0 148 o21 (cnd 56 (En 148 k13 (B20 P N1)) (En 148 k14 (B17 P N1))) k14 (B21 P N1) := fun _ _ _ _ _ _ _ _ _ _ _ _  => by kernel_rfl
abbrev k15 : Sk := [(0,.v),(1,.i .i64),(2,.i .i64),(3,.i .i64),(4,.v),(10,.b),(11,.b),(12,.i .i64)]
noncomputable def o22 := ob Try.f182 [.r,.r,.l,.l,.l,.r,.r,.r,.r,.l]
def B22 (P : PT) (N1 : NTy k0 Pr) (x0 : Value) (x1 x2 x3 : Int) (x4 : Value) (x10 x11 : Bool) (x12 : Int) (H : AHeap) : Prop :=
  AC Try.prog T0 202 [x0, (Value.int .i64 x1), (Value.int .i64 x2), x4] H (fun v1 H2 => tup2 v1 (fun v3 v4 => asI .i64 v3 (fun v5 => asI .i64 v4 (fun v6 => B21 P N1 x0 x1 x2 x3 x4 x10 x11 x12 v5 v6 H2))))
theorem q22 (P : PT) (N1 : NTy k0 Pr) : QB Try.prog T0 148 o22 (En 148 k14 (B21 P N1)) k15 (B22 P N1) := fun _ _ _ _ _ _ _ _ _ _  => by kernel_rfl
noncomputable def o23 := ob Try.f182 [.r,.r,.l,.l,.l,.r,.r,.r,.l,.r,.l,.r]
def B23 (P : PT) (N1 : NTy k0 Pr) (x0 : Value) (x1 x2 x3 : Int) (x4 : Value) (x10 x11 : Bool) (x12 : Int) (H : AHeap) : Prop :=
  B22 P N1 x0 x1 x2 (IntKind.i64.wrap (x3 - 1)) x4 x10 x11 x12 H
theorem q23 (P : PT) (N1 : NTy k0 Pr) : QB Try.prog T0 148 o23 (En 148 k15 (B22 P N1)) k15 (B23 P N1) := fun _ _ _ _ _ _ _ _ _ _  => by kernel_rfl
noncomputable def o24 := ob Try.f182 [.r,.r,.l,.l,.l,.r,.r,.r,.l,.r,.l,.l]
def B24 (P : PT) (N1 : NTy k0 Pr) (x0 : Value) (x1 x2 x3 : Int) (x4 : Value) (x10 x11 : Bool) (x12 : Int) (H : AHeap) : Prop :=
  AC Try.prog T0 201 [x0, (Value.int .i64 x1), (Value.int .i64 x2), x4] H (fun v1 H2 => asTup v1 (fun l3 => B23 P N1 x0 x1 x2 x3 x4 x10 x11 x12 H2))
theorem q24 (P : PT) (N1 : NTy k0 Pr) : QB Try.prog T0 148 o24 (En 148 k15 (B23 P N1)) k15 (B24 P N1) := fun _ _ _ _ _ _ _ _ _ _  => by kernel_rfl
noncomputable def o25 := ob Try.f182 [.r,.r,.l,.l,.l,.r,.r,.r,.l,.l]
def B25 (P : PT) (N1 : NTy k0 Pr) (x0 : Value) (x1 x2 x3 : Int) (x4 : Value) (x10 x11 : Bool) (x12 : Int) (H : AHeap) : Prop :=
  pif (!x10) (B24 P N1 x0 x1 x2 x3 x4 x10 x11 x12 H) (B22 P N1 x0 x1 x2 x3 x4 x10 x11 x12 H)
theorem q25 (P : PT) (N1 : NTy k0 Pr) : QB Try.prog T0 148 o25 (cnd 39 (En 148 k15 (B24 P N1)) (En 148 k15 (B22 P N1))) k15 (B25 P N1) := fun _ _ _ _ _ _ _ _ _ _  => by kernel_rfl
abbrev k16 : Sk := [(0,.v),(1,.i .i64),(2,.i .i64),(4,.v)]
noncomputable def o26 := ob Try.f182 [.r,.r,.l,.l,.l,.r,.r,.l,.r,.l,.l]
def B26 (P : PT) (N1 : NTy k0 Pr) (x0 : Value) (x1 x2 : Int) (x4 : Value) (H : AHeap) : Prop :=
  AC Try.prog T0 200 [x0, (Value.int .i64 x1), (Value.int .i64 x2), x4] H (fun v1 H2 => asTup v1 (fun l3 => P (Value.tuple ⟨[]⟩) H2))
theorem q26 (P : PT) (N1 : NTy k0 Pr) : QB Try.prog T0 148 o26 (ret P) k16 (B26 P N1) := fun _ _ _ _ _ _  => by kernel_rfl
noncomputable def o27 := ob Try.f182 [.r,.r,.l,.l,.l,.r,.r,.l,.l]
def B27 (P : PT) (N1 : NTy k0 Pr) (x0 : Value) (x1 x2 x3 : Int) (x4 : Value) (x10 x11 : Bool) (x12 : Int) (H : AHeap) : Prop :=
  pif ((x3 : Int) == 0) (B26 P N1 x0 x1 x2 x4 H) (B25 P N1 x0 x1 x2 x3 x4 x10 x11 x12 H)
theorem q27 (P : PT) (N1 : NTy k0 Pr) : QB Try.prog T0 148 o27 (cnd 32 (En 148 k16 (B26 P N1)) (En 148 k15 (B25 P N1))) k15 (B27 P N1) := fun _ _ _ _ _ _ _ _ _ _  => by kernel_rfl
noncomputable def o28 := ob Try.f182 [.r,.r,.l,.l,.l,.r,.l,.r,.l,.l]
def B28 (P : PT) (N1 : NTy k0 Pr) (x0 : Value) (x1 x2 : Int) (x4 : Value) (H : AHeap) : Prop :=
  AC Try.prog T0 199 [x0, (Value.int .i64 x1), (Value.int .i64 x2), x4] H (fun v1 H2 => asTup v1 (fun l3 => P (Value.tuple ⟨[]⟩) H2))
theorem q28 (P : PT) (N1 : NTy k0 Pr) : QB Try.prog T0 148 o28 (ret P) k16 (B28 P N1) := fun _ _ _ _ _ _  => by kernel_rfl
noncomputable def o29 := ob Try.f182 [.r,.r,.l,.l,.l,.r,.l,.l]
def B29 (P : PT) (N1 : NTy k0 Pr) (x0 : Value) (x1 x2 x3 : Int) (x4 : Value) (x10 x11 : Bool) (x12 : Int) (H : AHeap) : Prop :=
  pif (decide ((x12 : Int) ≤ 12)) (B28 P N1 x0 x1 x2 x4 H) (B27 P N1 x0 x1 x2 x3 x4 x10 x11 x12 H)
theorem q29 (P : PT) (N1 : NTy k0 Pr) : QB Try.prog T0 148 o29 (cnd 25 (En 148 k16 (B28 P N1)) (En 148 k15 (B27 P N1))) k15 (B29 P N1) := fun _ _ _ _ _ _ _ _ _ _  => by kernel_rfl
noncomputable def o30 := ob Try.f182 [.r,.r,.l,.l,.l,.l]
def B30 (P : PT) (N1 : NTy k0 Pr) (x0 : Value) (x1 x2 x3 : Int) (x4 : Value) (x10 x11 : Bool) (H : AHeap) : Prop :=
  B29 P N1 x0 x1 x2 x3 x4 x10 x11 (IntKind.i64.wrap (x2 - x1)) H
theorem q30 (P : PT) (N1 : NTy k0 Pr) : QB Try.prog T0 148 o30 (En 148 k15 (B29 P N1)) k0 (B30 P N1) := fun _ _ _ _ _ _ _ _ _  => by kernel_rfl
def L1 (P : PT) (x0 : Value) (x1 x2 x3 : Int) (x4 : Value) (x10 x11 : Bool) (H : AHeap) : Prop :=
  ∃ (I : NTy k0 Pr) (μ : NTy k0 (AHeap → Nat)), I x0 x1 x2 x3 x4 x10 x11 H ∧ ∀ y0 y1 y2 y3 y4 y10 y11 G, I y0 y1 y2 y3 y4 y10 y11 G → B30 P (fun z0 z1 z2 z3 z4 z10 z11 G' => I z0 z1 z2 z3 z4 z10 z11 G' ∧ μ z0 z1 z2 z3 z4 z10 z11 G' < μ y0 y1 y2 y3 y4 y10 y11 G) y0 y1 y2 y3 y4 y10 y11 G
theorem l1 (P : PT) : LQ k0 (L1 P) (B30 P) := fun ⟨_,_,_,_,_,_,_,_⟩ _ ⟨I, μ, h0, hI⟩ => ⟨apT _ I, apT _ μ, h0, fun ⟨_,_,_,_,_,_,_,_⟩ _ h => hI _ _ _ _ _ _ _ _  h⟩
abbrev k17 : Sk := [(0,.v),(1,.i .i64),(2,.i .i64),(3,.i .i64),(4,.v),(10,.b)]
noncomputable def o31 := ob Try.f182 [.r,.l]
def B31 (P : PT) (x0 : Value) (x1 x2 x3 : Int) (x4 : Value) (x10 : Bool) (H : AHeap) : Prop :=
  L1 P x0 x1 x2 x3 x4 x10 true H
theorem q31 (P : PT) : QB Try.prog T0 148 o31 (En 148 k0 (L1 P)) k17 (B31 P) := fun _ _ _ _ _ _ _ _  => by kernel_rfl
abbrev k18 : Sk := [(0,.v),(1,.i .i64),(2,.i .i64),(3,.i .i64),(4,.v)]
noncomputable def o32 := ob Try.f182 [.l]
def B32 (P : PT) (x0 : Value) (x1 x2 x3 : Int) (x4 : Value) (H : AHeap) : Prop :=
  B31 P x0 x1 x2 x3 x4 true H
theorem q32 (P : PT) : QB Try.prog T0 148 o32 (En 148 k17 (B31 P)) k18 (B32 P) := fun _ _ _ _ _ _ _  => by kernel_rfl
noncomputable def code : Code := (.seq (.region 0 ⟨o32⟩ false) (.seq (.region 1 ⟨o31⟩ false) (.block 0 (.loop (.block 1 (.seq (.region 2 ⟨o30⟩ false) (.seq (.seq (.region 3 ⟨o29⟩ false) (.cond (.tmp 25) (.seq (.region 4 ⟨o28⟩ false) .ret) .skip)) (.seq (.seq (.region 5 ⟨o27⟩ false) (.cond (.tmp 32) (.seq (.region 6 ⟨o26⟩ false) .ret) .skip)) (.seq (.seq (.region 7 ⟨o25⟩ false) (.cond (.tmp 39) (.seq (.region 8 ⟨o24⟩ false) (.region 9 ⟨o23⟩ false)) .skip)) (.seq (.region 10 ⟨o22⟩ false) (.seq (.seq (.region 11 ⟨o21⟩ false) (.cond (.tmp 56) (.seq (.region 12 ⟨o20⟩ false) (.seq (.region 13 ⟨o19⟩ false) (.region 14 ⟨o18⟩ false))) .skip)) (.seq (.seq (.region 15 ⟨o17⟩ false) (.cond (.tmp 75) (.seq (.region 16 ⟨o16⟩ false) (.cond (.tmp 80) .ret .skip)) .skip)) (.seq (.seq (.region 17 ⟨o15⟩ true) (.cond (.tmp 97) (.seq (.region 18 ⟨o14⟩ false) (.seq (.region 19 ⟨o13⟩ false) (.exit 1))) .skip)) (.seq (.region 20 ⟨o12⟩ false) (.seq (.region 21 ⟨o11⟩ false) (.seq (.region 22 ⟨o10⟩ false) (.seq (.region 23 ⟨o9⟩ false) (.seq (.region 24 ⟨o8⟩ false) (.cond (.tmp 125) (.seq (.region 25 ⟨o4⟩ false) (.seq (.region 26 ⟨o3⟩ false) (.region 27 ⟨o2⟩ false))) (.seq (.region 28 ⟨o7⟩ false) (.seq (.region 29 ⟨o6⟩ false) (.region 30 ⟨o5⟩ false))))))))))))))))))))))
theorem body : Try.f182.body = some code := by kernel_rfl
theorem main (P : PT) : ∀ env H, (En 148 k18 (B32 P)) env H → AW Try.prog T0 code env H (mkQ (ret P) (fun _ _ _ => False) (ret P)) :=
  (r_seq (rB T0_ok (q32 P)) (r_seq (rB T0_ok (q31 P)) (r_block (rL (l1 P) (fun N1 => (r_block (r_seq (rB T0_ok (q30 P N1)) (r_seq (r_seq (rB T0_ok (q29 P N1)) (r_cond rfl (r_seq (rB T0_ok (q28 P N1)) r_ret) r_skip)) (r_seq (r_seq (rB T0_ok (q27 P N1)) (r_cond rfl (r_seq (rB T0_ok (q26 P N1)) r_ret) r_skip)) (r_seq (r_seq (rB T0_ok (q25 P N1)) (r_cond rfl (r_seq (rB T0_ok (q24 P N1)) (rB T0_ok (q23 P N1))) r_skip)) (r_seq (rB T0_ok (q22 P N1)) (r_seq (r_seq (rB T0_ok (q21 P N1)) (r_cond rfl (r_seq (rB T0_ok (q20 P N1)) (r_seq (rB T0_ok (q19 P N1)) (rB T0_ok (q18 P N1)))) r_skip)) (r_seq (r_seq (rB T0_ok (q17 P N1)) (r_cond rfl (r_seq (rB T0_ok (q16 P N1)) (r_cond rfl r_ret r_skip)) r_skip)) (r_seq (r_seq (rD T0_ok mixed [(0, false), (1, false), (2, false), (3, false), (4, false), (5, false), (6, false), (7, false), (8, false), (9, false), (10, false), (11, false), (12, false), (13, false), (14, false), (15, false), (16, false)] (by kernel_rfl) (q15 P N1)) (r_cond rfl (r_seq (rB T0_ok (q14 P N1)) (r_seq (rB T0_ok (q13 P N1)) (r_exit (fun _ _ h => h)))) r_skip)) (r_seq (rB T0_ok (q12 P N1)) (r_seq (rB T0_ok (q11 P N1)) (r_seq (rB T0_ok (q10 P N1)) (r_seq (rB T0_ok (q9 P N1)) (r_seq (rB T0_ok (q8 P N1)) (r_cond rfl (r_seq (rB T0_ok (q4 P N1)) (r_seq (rB T0_ok (q3 P N1)) (rB T0_ok (q2 P N1)))) (r_seq (rB T0_ok (q7 P N1)) (r_seq (rB T0_ok (q6 P N1)) (rB T0_ok (q5 P N1))))))))))))))))))))))))
theorem ac (P : PT) (x0 : Value) (x1 x2 x3 : Int) (x4 : Value) (H : AHeap) (h : B32 P x0 x1 x2 x3 x4 H) : AC Try.prog T0 182 [x0, (Value.int .i64 x1), (Value.int .i64 x2), (Value.int .i64 x3), x4] H P :=
  r_fn T0_ok (c := code) (n := 148) Try.func182 body (by kernel_rfl) (main P) (En_mk (x0, x1, x2, x3, x4, ()) (by kernel_rfl) ⟨by kernel_rfl, by kernel_rfl, by kernel_rfl, by kernel_rfl, by kernel_rfl, trivial⟩ h)

end F182
-- slices.nextPowerOfTwo
namespace F184
noncomputable def ret (P : PT) : EP := retE T0 7 Try.f184 P
abbrev k0 : Sk := [(0,.i .i64)]
noncomputable def o1 := ob Try.f184 [.r,.l]
def B1 (P : PT) (x0 : Int) (H : AHeap) : Prop :=
  AC Try.prog T0 117 [(Value.int .u64 (IntKind.u64.wrap x0))] H (fun v1 H2 => asI .i64 v1 (fun v3 => ((0 : Int) ≤ v3) ∧ (P (Value.int .u64 (IntKind.u64.wrap (1 * 2 ^ (min (Int.toNat v3) 64)))) H2)))
theorem q1 (P : PT) : QB Try.prog T0 7 o1 (ret P) k0 (B1 P) := fun _ _ _  => by kernel_rfl
noncomputable def o2 := ob Try.f184 [.l]
def B2 (P : PT) (x0 : Int) (H : AHeap) : Prop :=
  B1 P x0 H
theorem q2 (P : PT) : QB Try.prog T0 7 o2 (En 7 k0 (B1 P)) k0 (B2 P) := fun _ _ _  => by kernel_rfl
noncomputable def code : Code := (.seq (.region 0 ⟨o2⟩ false) (.seq (.region 1 ⟨o1⟩ false) .ret))
theorem body : Try.f184.body = some code := by kernel_rfl
theorem main (P : PT) : ∀ env H, (En 7 k0 (B2 P)) env H → AW Try.prog T0 code env H (mkQ (ret P) (fun _ _ _ => False) (ret P)) :=
  (r_seq (rB T0_ok (q2 P)) (r_seq (rB T0_ok (q1 P)) r_ret))
theorem ac (P : PT) (x0 : Int) (H : AHeap) (h : B2 P x0 H) : AC Try.prog T0 184 [(Value.int .i64 x0)] H P :=
  r_fn T0_ok (c := code) (n := 7) Try.func184 body (by kernel_rfl) (main P) (En_mk (x0, ()) (by kernel_rfl) ⟨by kernel_rfl, trivial⟩ h)

end F184
-- (*slices.xorshift).Next
namespace F185
noncomputable def ret (P : PT) : EP := retE T0 33 Try.f185 P
abbrev k0 : Sk := [(0,.v)]
noncomputable def o1 := ob Try.f185 [.r,.r,.r,.r,.l]
def B1 (P : PT) (x0 : Value) (H : AHeap) : Prop :=
  nilK x0 (fun v1 => asP v1 (fun b2 o3 => ldI .u64 H b2 o3 (fun v4 => P (Value.int .u64 v4) H)))
theorem q1 (P : PT) : QB Try.prog T0 33 o1 (ret P) k0 (B1 P) := fun _ _ _  => by kernel_rfl
noncomputable def o2 := ob Try.f185 [.r,.r,.r,.l]
def B2 (P : PT) (x0 : Value) (H : AHeap) : Prop :=
  nilK x0 (fun v1 => asP v1 (fun b2 o3 => ldI .u64 H b2 o3 (fun v4 => nilK x0 (fun v5 => asP v5 (fun b6 o7 => ldI .u64 H b6 o7 (fun v8 => ((0 : Int) ≤ 17) ∧ (nilK x0 (fun v9 => asP v9 (fun b10 o11 => stK H b10 o11 [(Value.int .u64 (IntKind.u64.wrap (BitVec.ofInt 64 v4 ^^^ BitVec.ofInt 64 (IntKind.u64.wrap (v8 * 2 ^ (min (Int.toNat 17) 64)))).toNat))] (fun H12 => B1 P x0 H12))))))))))
theorem q2 (P : PT) : QD Try.prog T0 33 o2 [(0, false), (1, false), (2, false), (3, false), (4, false), (5, false), (6, false), (7, false), (8, false), (9, false)] (En 33 k0 (B1 P)) k0 (B2 P) := fun _ _ _  => by kernel_rfl
noncomputable def o3 := ob Try.f185 [.r,.r,.l]
def B3 (P : PT) (x0 : Value) (H : AHeap) : Prop :=
  nilK x0 (fun v1 => asP v1 (fun b2 o3 => ldI .u64 H b2 o3 (fun v4 => nilK x0 (fun v5 => asP v5 (fun b6 o7 => ldI .u64 H b6 o7 (fun v8 => ((0 : Int) ≤ 7) ∧ (nilK x0 (fun v9 => asP v9 (fun b10 o11 => stK H b10 o11 [(Value.int .u64 (IntKind.u64.wrap (BitVec.ofInt 64 v4 ^^^ BitVec.ofInt 64 (Int.fdiv v8 (2 ^ (min (Int.toNat 7) 64)))).toNat))] (fun H12 => B2 P x0 H12))))))))))
theorem q3 (P : PT) : QD Try.prog T0 33 o3 [(0, false), (1, false), (2, false), (3, false), (4, false), (5, false), (6, false), (7, false), (8, false), (9, false)] (En 33 k0 (B2 P)) k0 (B3 P) := fun _ _ _  => by kernel_rfl
noncomputable def o4 := ob Try.f185 [.r,.l]
def B4 (P : PT) (x0 : Value) (H : AHeap) : Prop :=
  nilK x0 (fun v1 => asP v1 (fun b2 o3 => ldI .u64 H b2 o3 (fun v4 => nilK x0 (fun v5 => asP v5 (fun b6 o7 => ldI .u64 H b6 o7 (fun v8 => ((0 : Int) ≤ 13) ∧ (nilK x0 (fun v9 => asP v9 (fun b10 o11 => stK H b10 o11 [(Value.int .u64 (IntKind.u64.wrap (BitVec.ofInt 64 v4 ^^^ BitVec.ofInt 64 (IntKind.u64.wrap (v8 * 2 ^ (min (Int.toNat 13) 64)))).toNat))] (fun H12 => B3 P x0 H12))))))))))
theorem q4 (P : PT) : QD Try.prog T0 33 o4 [(0, false), (1, false), (2, false), (3, false), (4, false), (5, false), (6, false), (7, false), (8, false), (9, false)] (En 33 k0 (B3 P)) k0 (B4 P) := fun _ _ _  => by kernel_rfl
noncomputable def o5 := ob Try.f185 [.l]
def B5 (P : PT) (x0 : Value) (H : AHeap) : Prop :=
  B4 P x0 H
theorem q5 (P : PT) : QB Try.prog T0 33 o5 (En 33 k0 (B4 P)) k0 (B5 P) := fun _ _ _  => by kernel_rfl
noncomputable def code : Code := (.seq (.region 0 ⟨o5⟩ false) (.seq (.region 1 ⟨o4⟩ true) (.seq (.region 2 ⟨o3⟩ true) (.seq (.region 3 ⟨o2⟩ true) (.seq (.region 4 ⟨o1⟩ false) .ret)))))
theorem body : Try.f185.body = some code := by kernel_rfl
theorem main (P : PT) : ∀ env H, (En 33 k0 (B5 P)) env H → AW Try.prog T0 code env H (mkQ (ret P) (fun _ _ _ => False) (ret P)) :=
  (r_seq (rB T0_ok (q5 P)) (r_seq (rD T0_ok mixed [(0, false), (1, false), (2, false), (3, false), (4, false), (5, false), (6, false), (7, false), (8, false), (9, false)] (by kernel_rfl) (q4 P)) (r_seq (rD T0_ok mixed [(0, false), (1, false), (2, false), (3, false), (4, false), (5, false), (6, false), (7, false), (8, false), (9, false)] (by kernel_rfl) (q3 P)) (r_seq (rD T0_ok mixed [(0, false), (1, false), (2, false), (3, false), (4, false), (5, false), (6, false), (7, false), (8, false), (9, false)] (by kernel_rfl) (q2 P)) (r_seq (rB T0_ok (q1 P)) r_ret)))))
theorem ac (P : PT) (x0 : Value) (H : AHeap) (h : B5 P x0 H) : AC Try.prog T0 185 [x0] H P :=
  r_fn T0_ok (c := code) (n := 33) Try.func185 body (by kernel_rfl) (main P) (En_mk (x0, ()) (by kernel_rfl) ⟨by kernel_rfl, trivial⟩ h)

end F185
-- cmp.isNaN[int64]
namespace F188
noncomputable def ret (P : PT) : EP := retE T0 6 Try.f188 P
abbrev k0 : Sk := [(0,.i .i64)]
noncomputable def o1 := ob Try.f188 [.r,.l]
def B1 (P : PT) (x0 : Int) (H : AHeap) : Prop :=
  P (Value.bool ((x0 : Int) != x0)) H
theorem q1 (P : PT) : QB Try.prog T0 6 o1 (ret P) k0 (B1 P) := fun _ _ _  => by kernel_rfl
noncomputable def o2 := ob Try.f188 [.l]
def B2 (P : PT) (x0 : Int) (H : AHeap) : Prop :=
  B1 P x0 H
theorem q2 (P : PT) : QB Try.prog T0 6 o2 (En 6 k0 (B1 P)) k0 (B2 P) := fun _ _ _  => by kernel_rfl
noncomputable def code : Code := (.seq (.region 0 ⟨o2⟩ false) (.seq (.region 1 ⟨o1⟩ false) .ret))
theorem body : Try.f188.body = some code := by kernel_rfl
theorem main (P : PT) : ∀ env H, (En 6 k0 (B2 P)) env H → AW Try.prog T0 code env H (mkQ (ret P) (fun _ _ _ => False) (ret P)) :=
  (r_seq (rB T0_ok (q2 P)) (r_seq (rB T0_ok (q1 P)) r_ret))
theorem ac (P : PT) (x0 : Int) (H : AHeap) (h : B2 P x0 H) : AC Try.prog T0 188 [(Value.int .i64 x0)] H P :=
  r_fn T0_ok (c := code) (n := 6) Try.func188 body (by kernel_rfl) (main P) (En_mk (x0, ()) (by kernel_rfl) ⟨by kernel_rfl, trivial⟩ h)

end F188
-- slices.insertionSortCmpFunc[loop.example/g01329/impl.Edge]
namespace F199
noncomputable def ret (P : PT) : EP := retE T0 53 Try.f199 P
abbrev k0 : Sk := [(0,.v),(1,.i .i64),(2,.i .i64),(3,.v),(8,.i .i64)]
noncomputable def o2 := ob Try.f199 [.r,.l,.l,.r,.r]
def B2 (P : PT) (N1 : NTy k0 Pr) (x0 : Value) (x1 x2 : Int) (x3 : Value) (x8 : Int) (H : AHeap) : Prop :=
  N1 x0 x1 x2 x3 (IntKind.i64.wrap (x8 + 1)) H
theorem q2 (P : PT) (N1 : NTy k0 Pr) : QB Try.prog T0 53 o2 (En 53 k0 N1) k0 (B2 P N1) := fun _ _ _ _ _ _ _  => by kernel_rfl
abbrev k1 : Sk := [(0,.v),(1,.i .i64),(2,.i .i64),(3,.v),(8,.i .i64),(9,.i .i64)]
noncomputable def o4 := ob Try.f199 [.r,.l,.l,.r,.l,.l,.r,.l,.l,.r,.r]
def B4 (P : PT) (N1 : NTy k0 Pr) (N3 : NTy k1 Pr) (x0 : Value) (x1 x2 : Int) (x3 : Value) (x8 x9 : Int) (H : AHeap) : Prop :=
  N3 x0 x1 x2 x3 x8 (IntKind.i64.wrap (x9 - 1)) H
theorem q4 (P : PT) (N1 : NTy k0 Pr) (N3 : NTy k1 Pr) : QB Try.prog T0 53 o4 (En 53 k1 N3) k1 (B4 P N1 N3) := fun _ _ _ _ _ _ _ _  => by kernel_rfl
noncomputable def o5 := ob Try.f199 [.r,.l,.l,.r,.l,.l,.r,.l,.l,.r,.l,.l]
def B5 (P : PT) (N1 : NTy k0 Pr) (N3 : NTy k1 Pr) (x0 : Value) (x1 x2 : Int) (x3 : Value) (x8 x9 : Int) (H : AHeap) : Prop :=
  idxK x0 (IntKind.i64.wrap (x9 - 1)) 2 (fun b1 o2 => ldI .i64 H b1 o2 (fun v3 => ldI .i64 H b1 (o2 + 1) (fun v4 => idxK x0 x9 2 (fun b5 o6 => ldI .i64 H b5 o6 (fun v7 => ldI .i64 H b5 (o6 + 1) (fun v8 => idxK x0 x9 2 (fun b9 o10 => stK H b9 o10 [(Value.int .i64 v3), (Value.int .i64 v4)] (fun H11 => idxK x0 (IntKind.i64.wrap (x9 - 1)) 2 (fun b12 o13 => stK H11 b12 o13 [(Value.int .i64 v7), (Value.int .i64 v8)] (fun H14 => B4 P N1 N3 x0 x1 x2 x3 x8 x9 H14))))))))))
theorem q5 (P : PT) (N1 : NTy k0 Pr) (N3 : NTy k1 Pr) : QD Try.prog T0 53 o5 [(0, false), (1, false), (2, false), (3, false), (4, false), (5, false), (6, false), (7, false), (8, false), (9, false), (10, false), (11, false), (12, false), (13, false), (14, false), (15, false), (16, false), (17, false)] (En 53 k1 (B4 P N1 N3)) k1 (B5 P N1 N3) := fun _ _ _ _ _ _ _ _  => by kernel_rfl
noncomputable def o6 := ob Try.f199 [.r,.l,.l,.r,.l,.l,.r,.l,.l,.l,.l]
def B6 (P : PT) (N1 : NTy k0 Pr) (N3 : NTy k1 Pr) (x0 : Value) (x1 x2 : Int) (x3 : Value) (x8 x9 : Int) (H : AHeap) : Prop :=
  pif (decide ((x9 : Int) > x1)) (idxK x0 x9 2 (fun b1 o2 => ldI .i64 H b1 o2 (fun v3 => ldI .i64 H b1 (o2 + 1) (fun v4 => idxK x0 (IntKind.i64.wrap (x9 - 1)) 2 (fun b5 o6 => ldI .i64 H b5 o6 (fun v7 => ldI .i64 H b5 (o6 + 1) (fun v8 => callV Try.prog T0 x3 [(Value.agg ⟨[(Value.int .i64 v3), (Value.int .i64 v4)]⟩), (Value.agg ⟨[(Value.int .i64 v7), (Value.int .i64 v8)]⟩)] H (fun v9 H10 => asI .i64 v9 (fun v11 => pif (decide ((v11 : Int) < 0)) (B5 P N1 N3 x0 x1 x2 x3 x8 x9 H10) (B2 P N1 x0 x1 x2 x3 x8 H10)))))))))) (B2 P N1 x0 x1 x2 x3 x8 H)
theorem q6 (P : PT) (N1 : NTy k0 Pr) (N3 : NTy k1 Pr) : QD Try.prog T0 53 o6 [(0, false), (1, false), (2, false), (3, false), (4, false), (5, false), (6, false), (7, false), (8, false), (9, false), (10, false), (11, false), (12, false), (13, false), (14, false), (15, false), (16, false)] (cnd 34 (En 53 k1 (B5 P N1 N3)) (En 53 k0 (B2 P N1))) k1 (B6 P N1 N3) := fun _ _ _ _ _ _ _ _  => by kernel_rfl
def L3 (P : PT) (N1 : NTy k0 Pr) (x0 : Value) (x1 x2 : Int) (x3 : Value) (x8 x9 : Int) (H : AHeap) : Prop :=
  ∃ (I : NTy k1 Pr) (μ : NTy k1 (AHeap → Nat)), I x0 x1 x2 x3 x8 x9 H ∧ ∀ y0 y1 y2 y3 y8 y9 G, I y0 y1 y2 y3 y8 y9 G → B6 P N1 (fun z0 z1 z2 z3 z8 z9 G' => I z0 z1 z2 z3 z8 z9 G' ∧ μ z0 z1 z2 z3 z8 z9 G' < μ y0 y1 y2 y3 y8 y9 G) y0 y1 y2 y3 y8 y9 G
theorem l3 (P : PT) (N1 : NTy k0 Pr) : LQ k1 (L3 P N1) (B6 P N1) := fun ⟨_,_,_,_,_,_,_⟩ _ ⟨I, μ, h0, hI⟩ => ⟨apT _ I, apT _ μ, h0, fun ⟨_,_,_,_,_,_,_⟩ _ h => hI _ _ _ _ _ _ _  h⟩
noncomputable def o7 := ob Try.f199 [.r,.l,.l,.r,.l,.l,.l]
def B7 (P : PT) (N1 : NTy k0 Pr) (x0 : Value) (x1 x2 : Int) (x3 : Value) (x8 : Int) (H : AHeap) : Prop :=
  L3 P N1 x0 x1 x2 x3 x8 x8 H
theorem q7 (P : PT) (N1 : NTy k0 Pr) : QB Try.prog T0 53 o7 (En 53 k1 (L3 P N1)) k0 (B7 P N1) := fun _ _ _ _ _ _ _  => by kernel_rfl
noncomputable def o8 := ob Try.f199 [.r,.l,.l,.l,.l]
def B8 (P : PT) (N1 : NTy k0 Pr) (x0 : Value) (x1 x2 : Int) (x3 : Value) (x8 : Int) (H : AHeap) : Prop :=
  pif (decide ((x8 : Int) < x2)) (B7 P N1 x0 x1 x2 x3 x8 H) (P (Value.tuple ⟨[]⟩) H)
theorem q8 (P : PT) (N1 : NTy k0 Pr) : QB Try.prog T0 53 o8 (cnd 14 (En 53 k0 (B7 P N1)) (ret P)) k0 (B8 P N1) := fun _ _ _ _ _ _ _  => by kernel_rfl
def L1 (P : PT) (x0 : Value) (x1 x2 : Int) (x3 : Value) (x8 : Int) (H : AHeap) : Prop :=
  ∃ (I : NTy k0 Pr) (μ : NTy k0 (AHeap → Nat)), I x0 x1 x2 x3 x8 H ∧ ∀ y0 y1 y2 y3 y8 G, I y0 y1 y2 y3 y8 G → B8 P (fun z0 z1 z2 z3 z8 G' => I z0 z1 z2 z3 z8 G' ∧ μ z0 z1 z2 z3 z8 G' < μ y0 y1 y2 y3 y8 G) y0 y1 y2 y3 y8 G
theorem l1 (P : PT) : LQ k0 (L1 P) (B8 P) := fun ⟨_,_,_,_,_,_⟩ _ ⟨I, μ, h0, hI⟩ => ⟨apT _ I, apT _ μ, h0, fun ⟨_,_,_,_,_,_⟩ _ h => hI _ _ _ _ _ _  h⟩
abbrev k2 : Sk := [(0,.v),(1,.i .i64),(2,.i .i64),(3,.v)]
noncomputable def o9 := ob Try.f199 [.l]
def B9 (P : PT) (x0 : Value) (x1 x2 : Int) (x3 : Value) (H : AHeap) : Prop :=
  L1 P x0 x1 x2 x3 (IntKind.i64.wrap (x1 + 1)) H
theorem q9 (P : PT) : QB Try.prog T0 53 o9 (En 53 k0 (L1 P)) k2 (B9 P) := fun _ _ _ _ _ _  => by kernel_rfl
noncomputable def code : Code := (.seq (.region 0 ⟨o9⟩ false) (.block 0 (.loop (.seq (.seq (.region 1 ⟨o8⟩ false) (.cond (.tmp 14) .skip (.exit 0))) (.seq (.block 1 (.seq (.region 3 ⟨o7⟩ false) (.block 2 (.loop (.seq (.seq (.region 4 ⟨o6⟩ true) (.cond (.tmp 34) .skip (.exit 2))) (.seq (.block 3 (.region 6 ⟨o5⟩ true)) (.region 5 ⟨o4⟩ false))))))) (.region 2 ⟨o2⟩ false))))))
theorem body : Try.f199.body = some code := by kernel_rfl
theorem main (P : PT) : ∀ env H, (En 53 k2 (B9 P)) env H → AW Try.prog T0 code env H (mkQ (ret P) (fun _ _ _ => False) (ret P)) :=
  (r_seq (rB T0_ok (q9 P)) (r_block (rL (l1 P) (fun N1 => (r_seq (r_seq (rB T0_ok (q8 P N1)) (r_cond rfl r_skip (r_exit (fun _ _ h => h)))) (r_seq (r_block (r_seq (rB T0_ok (q7 P N1)) (r_block (rL (l3 P N1) (fun N3 => (r_seq (r_seq (rD T0_ok mixed [(0, false), (1, false), (2, false), (3, false), (4, false), (5, false), (6, false), (7, false), (8, false), (9, false), (10, false), (11, false), (12, false), (13, false), (14, false), (15, false), (16, false)] (by kernel_rfl) (q6 P N1 N3)) (r_cond rfl r_skip (r_exit (fun _ _ h => h)))) (r_seq (r_block (rD T0_ok mixed [(0, false), (1, false), (2, false), (3, false), (4, false), (5, false), (6, false), (7, false), (8, false), (9, false), (10, false), (11, false), (12, false), (13, false), (14, false), (15, false), (16, false), (17, false)] (by kernel_rfl) (q5 P N1 N3))) (rB T0_ok (q4 P N1 N3))))))))) (rB T0_ok (q2 P N1))))))))
theorem ac (P : PT) (x0 : Value) (x1 x2 : Int) (x3 : Value) (H : AHeap) (h : B9 P x0 x1 x2 x3 H) : AC Try.prog T0 199 [x0, (Value.int .i64 x1), (Value.int .i64 x2), x3] H P :=
  r_fn T0_ok (c := code) (n := 53) Try.func199 body (by kernel_rfl) (main P) (En_mk (x0, x1, x2, x3, ()) (by kernel_rfl) ⟨by kernel_rfl, by kernel_rfl, by kernel_rfl, by kernel_rfl, trivial⟩ h)

end F199
-- slices.heapSortCmpFunc[loop.example/g01329/impl.Edge]
namespace F200
noncomputable def ret (P : PT) : EP := retE T0 60 Try.f200 P
abbrev k0 : Sk := [(0,.v),(3,.v),(8,.i .i64),(9,.i .i64),(12,.i .i64)]
noncomputable def o2 := ob Try.f200 [.r,.r,.r,.r,.r,.l,.l,.r,.r]
def B2 (P : PT) (N1 : NTy k0 Pr) (x0 x3 : Value) (x8 x9 x12 : Int) (H : AHeap) : Prop :=
  N1 x0 x3 x8 x9 (IntKind.i64.wrap (x12 - 1)) H
theorem q2 (P : PT) (N1 : NTy k0 Pr) : QB Try.prog T0 60 o2 (En 60 k0 N1) k0 (B2 P N1) := fun _ _ _ _ _ _ _  => by kernel_rfl
noncomputable def o3 := ob Try.f200 [.r,.r,.r,.r,.r,.l,.l,.r,.l,.l,.r]
def B3 (P : PT) (N1 : NTy k0 Pr) (x0 x3 : Value) (x8 x9 x12 : Int) (H : AHeap) : Prop :=
  AC Try.prog T0 212 [x0, (Value.int .i64 x9), (Value.int .i64 x12), (Value.int .i64 x8), x3] H (fun v1 H2 => asTup v1 (fun l3 => B2 P N1 x0 x3 x8 x9 x12 H2))
theorem q3 (P : PT) (N1 : NTy k0 Pr) : QB Try.prog T0 60 o3 (En 60 k0 (B2 P N1)) k0 (B3 P N1) := fun _ _ _ _ _ _ _  => by kernel_rfl
noncomputable def o4 := ob Try.f200 [.r,.r,.r,.r,.r,.l,.l,.r,.l,.l,.l]
def B4 (P : PT) (N1 : NTy k0 Pr) (x0 x3 : Value) (x8 x9 x12 : Int) (H : AHeap) : Prop :=
  idxK x0 (IntKind.i64.wrap (x8 + x12)) 2 (fun b1 o2 => ldI .i64 H b1 o2 (fun v3 => ldI .i64 H b1 (o2 + 1) (fun v4 => idxK x0 x8 2 (fun b5 o6 => ldI .i64 H b5 o6 (fun v7 => ldI .i64 H b5 (o6 + 1) (fun v8 => idxK x0 x8 2 (fun b9 o10 => stK H b9 o10 [(Value.int .i64 v3), (Value.int .i64 v4)] (fun H11 => idxK x0 (IntKind.i64.wrap (x8 + x12)) 2 (fun b12 o13 => stK H11 b12 o13 [(Value.int .i64 v7), (Value.int .i64 v8)] (fun H14 => B3 P N1 x0 x3 x8 x9 x12 H14))))))))))
theorem q4 (P : PT) (N1 : NTy k0 Pr) : QD Try.prog T0 60 o4 [(0, false), (1, false), (2, false), (3, false), (4, false), (5, false), (6, false), (7, false), (8, false), (9, false), (10, false), (11, false), (12, false), (13, false), (14, false), (15, false), (16, false), (17, false), (18, false), (19, false)] (En 60 k0 (B3 P N1)) k0 (B4 P N1) := fun _ _ _ _ _ _ _  => by kernel_rfl
noncomputable def o5 := ob Try.f200 [.r,.r,.r,.r,.r,.l,.l,.l,.l]
def B5 (P : PT) (N1 : NTy k0 Pr) (x0 x3 : Value) (x8 x9 x12 : Int) (H : AHeap) : Prop :=
  pif (decide ((x12 : Int) ≥ 0)) (B4 P N1 x0 x3 x8 x9 x12 H) (P (Value.tuple ⟨[]⟩) H)
theorem q5 (P : PT) (N1 : NTy k0 Pr) : QB Try.prog T0 60 o5 (cnd 33 (En 60 k0 (B4 P N1)) (ret P)) k0 (B5 P N1) := fun _ _ _ _ _ _ _  => by kernel_rfl
def L1 (P : PT) (x0 x3 : Value) (x8 x9 x12 : Int) (H : AHeap) : Prop :=
  ∃ (I : NTy k0 Pr) (μ : NTy k0 (AHeap → Nat)), I x0 x3 x8 x9 x12 H ∧ ∀ y0 y3 y8 y9 y12 G, I y0 y3 y8 y9 y12 G → B5 P (fun z0 z3 z8 z9 z12 G' => I z0 z3 z8 z9 z12 G' ∧ μ z0 z3 z8 z9 z12 G' < μ y0 y3 y8 y9 y12 G) y0 y3 y8 y9 y12 G
theorem l1 (P : PT) : LQ k0 (L1 P) (B5 P) := fun ⟨_,_,_,_,_,_⟩ _ ⟨I, μ, h0, hI⟩ => ⟨apT _ I, apT _ μ, h0, fun ⟨_,_,_,_,_,_⟩ _ h => hI _ _ _ _ _ _  h⟩
abbrev k1 : Sk := [(0,.v),(3,.v),(8,.i .i64),(9,.i .i64),(10,.i .i64)]
noncomputable def o6 := ob Try.f200 [.r,.r,.r,.r,.l]
def B6 (P : PT) (x0 x3 : Value) (x8 x9 x10 : Int) (H : AHeap) : Prop :=
  L1 P x0 x3 x8 x9 (IntKind.i64.wrap (x10 - 1)) H
theorem q6 (P : PT) : QB Try.prog T0 60 o6 (En 60 k0 (L1 P)) k1 (B6 P) := fun _ _ _ _ _ _ _  => by kernel_rfl
abbrev k2 : Sk := [(0,.v),(3,.v),(8,.i .i64),(9,.i .i64),(10,.i .i64),(11,.i .i64)]
noncomputable def o8 := ob Try.f200 [.r,.r,.r,.l,.r,.l,.l,.r,.r]
def B8 (P : PT) (N7 : NTy k2 Pr) (x0 x3 : Value) (x8 x9 x10 x11 : Int) (H : AHeap) : Prop :=
  N7 x0 x3 x8 x9 x10 (IntKind.i64.wrap (x11 - 1)) H
theorem q8 (P : PT) (N7 : NTy k2 Pr) : QB Try.prog T0 60 o8 (En 60 k2 N7) k2 (B8 P N7) := fun _ _ _ _ _ _ _ _  => by kernel_rfl
noncomputable def o9 := ob Try.f200 [.r,.r,.r,.l,.r,.l,.l,.r,.l,.l]
def B9 (P : PT) (N7 : NTy k2 Pr) (x0 x3 : Value) (x8 x9 x10 x11 : Int) (H : AHeap) : Prop :=
  AC Try.prog T0 212 [x0, (Value.int .i64 x11), (Value.int .i64 x10), (Value.int .i64 x8), x3] H (fun v1 H2 => asTup v1 (fun l3 => B8 P N7 x0 x3 x8 x9 x10 x11 H2))
theorem q9 (P : PT) (N7 : NTy k2 Pr) : QB Try.prog T0 60 o9 (En 60 k2 (B8 P N7)) k2 (B9 P N7) := fun _ _ _ _ _ _ _ _  => by kernel_rfl
noncomputable def o10 := ob Try.f200 [.r,.r,.r,.l,.r,.l,.l,.l,.l]
def B10 (P : PT) (N7 : NTy k2 Pr) (x0 x3 : Value) (x8 x9 x10 x11 : Int) (H : AHeap) : Prop :=
  pif (decide ((x11 : Int) ≥ 0)) (B9 P N7 x0 x3 x8 x9 x10 x11 H) (B6 P x0 x3 x8 x9 x10 H)
theorem q10 (P : PT) (N7 : NTy k2 Pr) : QB Try.prog T0 60 o10 (cnd 21 (En 60 k2 (B9 P N7)) (En 60 k1 (B6 P))) k2 (B10 P N7) := fun _ _ _ _ _ _ _ _  => by kernel_rfl
def L7 (P : PT) (x0 x3 : Value) (x8 x9 x10 x11 : Int) (H : AHeap) : Prop :=
  ∃ (I : NTy k2 Pr) (μ : NTy k2 (AHeap → Nat)), I x0 x3 x8 x9 x10 x11 H ∧ ∀ y0 y3 y8 y9 y10 y11 G, I y0 y3 y8 y9 y10 y11 G → B10 P (fun z0 z3 z8 z9 z10 z11 G' => I z0 z3 z8 z9 z10 z11 G' ∧ μ z0 z3 z8 z9 z10 z11 G' < μ y0 y3 y8 y9 y10 y11 G) y0 y3 y8 y9 y10 y11 G
theorem l7 (P : PT) : LQ k2 (L7 P) (B10 P) := fun ⟨_,_,_,_,_,_,_⟩ _ ⟨I, μ, h0, hI⟩ => ⟨apT _ I, apT _ μ, h0, fun ⟨_,_,_,_,_,_,_⟩ _ h => hI _ _ _ _ _ _ _  h⟩
noncomputable def o11 := ob Try.f200 [.r,.r,.r,.l,.l]
def B11 (P : PT) (x0 x3 : Value) (x8 x9 x10 : Int) (H : AHeap) : Prop :=
  L7 P x0 x3 x8 x9 x10 (IntKind.i64.wrap (Int.tdiv (IntKind.i64.wrap (x10 - 1)) 2)) H
theorem q11 (P : PT) : QB Try.prog T0 60 o11 (En 60 k2 (L7 P)) k1 (B11 P) := fun _ _ _ _ _ _ _  => by kernel_rfl
abbrev k3 : Sk := [(0,.v),(1,.i .i64),(2,.i .i64),(3,.v),(8,.i .i64),(9,.i .i64)]
noncomputable def o12 := ob Try.f200 [.r,.r,.l]
def B12 (P : PT) (x0 : Value) (x1 x2 : Int) (x3 : Value) (x8 x9 : Int) (H : AHeap) : Prop :=
  B11 P x0 x3 x8 x9 (IntKind.i64.wrap (x2 - x1)) H
theorem q12 (P : PT) : QB Try.prog T0 60 o12 (En 60 k1 (B11 P)) k3 (B12 P) := fun _ _ _ _ _ _ _ _  => by kernel_rfl
abbrev k4 : Sk := [(0,.v),(1,.i .i64),(2,.i .i64),(3,.v),(8,.i .i64)]
noncomputable def o13 := ob Try.f200 [.r,.l]
def B13 (P : PT) (x0 : Value) (x1 x2 : Int) (x3 : Value) (x8 : Int) (H : AHeap) : Prop :=
  B12 P x0 x1 x2 x3 x8 0 H
theorem q13 (P : PT) : QB Try.prog T0 60 o13 (En 60 k3 (B12 P)) k4 (B13 P) := fun _ _ _ _ _ _ _  => by kernel_rfl
abbrev k5 : Sk := [(0,.v),(1,.i .i64),(2,.i .i64),(3,.v)]
noncomputable def o14 := ob Try.f200 [.l]
def B14 (P : PT) (x0 : Value) (x1 x2 : Int) (x3 : Value) (H : AHeap) : Prop :=
  B13 P x0 x1 x2 x3 x1 H
theorem q14 (P : PT) : QB Try.prog T0 60 o14 (En 60 k4 (B13 P)) k5 (B14 P) := fun _ _ _ _ _ _  => by kernel_rfl
noncomputable def code : Code := (.seq (.region 0 ⟨o14⟩ false) (.seq (.region 1 ⟨o13⟩ false) (.seq (.region 2 ⟨o12⟩ false) (.seq (.seq (.region 3 ⟨o11⟩ false) (.block 0 (.loop (.seq (.seq (.region 4 ⟨o10⟩ false) (.cond (.tmp 21) .skip (.exit 0))) (.seq (.block 1 (.region 6 ⟨o9⟩ false)) (.region 5 ⟨o8⟩ false)))))) (.seq (.region 7 ⟨o6⟩ false) (.block 2 (.loop (.seq (.seq (.region 8 ⟨o5⟩ false) (.cond (.tmp 33) .skip (.exit 2))) (.seq (.block 3 (.seq (.region 10 ⟨o4⟩ true) (.region 11 ⟨o3⟩ false))) (.region 9 ⟨o2⟩ false))))))))))
theorem body : Try.f200.body = some code := by kernel_rfl
theorem main (P : PT) : ∀ env H, (En 60 k5 (B14 P)) env H → AW Try.prog T0 code env H (mkQ (ret P) (fun _ _ _ => False) (ret P)) :=
  (r_seq (rB T0_ok (q14 P)) (r_seq (rB T0_ok (q13 P)) (r_seq (rB T0_ok (q12 P)) (r_seq (r_seq (rB T0_ok (q11 P)) (r_block (rL (l7 P) (fun N7 => (r_seq (r_seq (rB T0_ok (q10 P N7)) (r_cond rfl r_skip (r_exit (fun _ _ h => h)))) (r_seq (r_block (rB T0_ok (q9 P N7))) (rB T0_ok (q8 P N7)))))))) (r_seq (rB T0_ok (q6 P)) (r_block (rL (l1 P) (fun N1 => (r_seq (r_seq (rB T0_ok (q5 P N1)) (r_cond rfl r_skip (r_exit (fun _ _ h => h)))) (r_seq (r_block (r_seq (rD T0_ok mixed [(0, false), (1, false), (2, false), (3, false), (4, false), (5, false), (6, false), (7, false), (8, false), (9, false), (10, false), (11, false), (12, false), (13, false), (14, false), (15, false), (16, false), (17, false), (18, false), (19, false)] (by kernel_rfl) (q4 P N1)) (rB T0_ok (q3 P N1)))) (rB T0_ok (q2 P N1))))))))))))
theorem ac (P : PT) (x0 : Value) (x1 x2 : Int) (x3 : Value) (H : AHeap) (h : B14 P x0 x1 x2 x3 H) : AC Try.prog T0 200 [x0, (Value.int .i64 x1), (Value.int .i64 x2), x3] H P :=
  r_fn T0_ok (c := code) (n := 60) Try.func200 body (by kernel_rfl) (main P) (En_mk (x0, x1, x2, x3, ()) (by kernel_rfl) ⟨by kernel_rfl, by kernel_rfl, by kernel_rfl, by kernel_rfl, trivial⟩ h)

end F200
-- slices.breakPatternsCmpFunc[loop.example/g01329/impl.Edge]
namespace F201
noncomputable def ret (P : PT) : EP := retE T0 67 Try.f201 P
abbrev k0 : Sk := [(0,.v),(1,.i .i64),(8,.i .i64),(9,.x),(10,.i .u64),(11,.i .i64)]
noncomputable def o2 := ob Try.f201 [.r,.r,.l,.r,.r,.r,.l,.l,.r,.r]
def B2 (P : PT) (N1 : NTy k0 Pr) (x0 : Value) (x1 x8 : Int) (x9 : Nat) (x10 x11 : Int) (H : AHeap) : Prop :=
  N1 x0 x1 x8 x9 x10 (IntKind.i64.wrap (x11 + 1)) H
theorem q2 (P : PT) (N1 : NTy k0 Pr) : QB Try.prog T0 67 o2 (En 67 k0 N1) k0 (B2 P N1) := fun _ _ _ _ _ _ _ _  => by kernel_rfl
abbrev k1 : Sk := [(0,.v),(1,.i .i64),(8,.i .i64),(9,.x),(10,.i .u64),(11,.i .i64),(12,.i .i64)]
noncomputable def o3 := ob Try.f201 [.r,.r,.l,.r,.r,.r,.l,.l,.r,.l,.l,.r,.r]
def B3 (P : PT) (N1 : NTy k0 Pr) (x0 : Value) (x1 x8 : Int) (x9 : Nat) (x10 x11 x12 : Int) (H : AHeap) : Prop :=
  idxK x0 (IntKind.i64.wrap (x1 + x12)) 2 (fun b1 o2 => ldI .i64 H b1 o2 (fun v3 => ldI .i64 H b1 (o2 + 1) (fun v4 => idxK x0 x11 2 (fun b5 o6 => ldI .i64 H b5 o6 (fun v7 => ldI .i64 H b5 (o6 + 1) (fun v8 => idxK x0 x11 2 (fun b9 o10 => stK H b9 o10 [(Value.int .i64 v3), (Value.int .i64 v4)] (fun H11 => idxK x0 (IntKind.i64.wrap (x1 + x12)) 2 (fun b12 o13 => stK H11 b12 o13 [(Value.int .i64 v7), (Value.int .i64 v8)] (fun H14 => B2 P N1 x0 x1 x8 x9 x10 x11 H14))))))))))
theorem q3 (P : PT) (N1 : NTy k0 Pr) : QD Try.prog T0 67 o3 [(0, false), (1, false), (2, false), (3, false), (4, false), (5, false), (6, false), (7, false), (8, false), (9, false), (10, false), (11, false), (12, false), (13, false), (14, false), (15, false), (16, false), (17, false), (18, false), (19, false)] (En 67 k0 (B2 P N1)) k1 (B3 P N1) := fun _ _ _ _ _ _ _ _ _  => by kernel_rfl
noncomputable def o4 := ob Try.f201 [.r,.r,.l,.r,.r,.r,.l,.l,.r,.l,.l,.r,.l,.r,.l]
def B4 (P : PT) (N1 : NTy k0 Pr) (x0 : Value) (x1 x8 : Int) (x9 : Nat) (x10 x11 x12 : Int) (H : AHeap) : Prop :=
  B3 P N1 x0 x1 x8 x9 x10 x11 (IntKind.i64.wrap (x12 - x8)) H
theorem q4 (P : PT) (N1 : NTy k0 Pr) : QB Try.prog T0 67 o4 (En 67 k1 (B3 P N1)) k1 (B4 P N1) := fun _ _ _ _ _ _ _ _ _  => by kernel_rfl
noncomputable def o5 := ob Try.f201 [.r,.r,.l,.r,.r,.r,.l,.l,.r,.l,.l,.r,.l,.l]
def B5 (P : PT) (N1 : NTy k0 Pr) (x0 : Value) (x1 x8 : Int) (x9 : Nat) (x10 x11 x12 : Int) (H : AHeap) : Prop :=
  pif (decide ((x12 : Int) ≥ x8)) (B4 P N1 x0 x1 x8 x9 x10 x11 x12 H) (B3 P N1 x0 x1 x8 x9 x10 x11 x12 H)
theorem q5 (P : PT) (N1 : NTy k0 Pr) : QB Try.prog T0 67 o5 (cnd 45 (En 67 k1 (B4 P N1)) (En 67 k1 (B3 P N1))) k1 (B5 P N1) := fun _ _ _ _ _ _ _ _ _  => by kernel_rfl
noncomputable def o6 := ob Try.f201 [.r,.r,.l,.r,.r,.r,.l,.l,.r,.l,.l,.l]
def B6 (P : PT) (N1 : NTy k0 Pr) (x0 : Value) (x1 x8 : Int) (x9 : Nat) (x10 x11 : Int) (H : AHeap) : Prop :=
  AC Try.prog T0 185 [(Value.pointer (some ⟨x9, 0, none⟩))] H (fun v1 H2 => asI .u64 v1 (fun v3 => B5 P N1 x0 x1 x8 x9 x10 x11 (IntKind.i64.wrap (IntKind.u64.wrap (BitVec.ofInt 64 v3 &&& BitVec.ofInt 64 (IntKind.u64.wrap (x10 - 1))).toNat)) H2))
theorem q6 (P : PT) (N1 : NTy k0 Pr) : QB Try.prog T0 67 o6 (En 67 k1 (B5 P N1)) k0 (B6 P N1) := fun _ _ _ _ _ _ _ _  => by kernel_rfl
noncomputable def o7 := ob Try.f201 [.r,.r,.l,.r,.r,.r,.l,.l,.l,.l]
def B7 (P : PT) (N1 : NTy k0 Pr) (x0 : Value) (x1 x8 : Int) (x9 : Nat) (x10 x11 : Int) (H : AHeap) : Prop :=
  pif (decide ((x11 : Int) ≤ (IntKind.i64.wrap ((IntKind.i64.wrap (x1 + (IntKind.i64.wrap ((IntKind.i64.wrap (Int.tdiv x8 4)) * 2)))) + 1)))) (B6 P N1 x0 x1 x8 x9 x10 x11 H) (P (Value.tuple ⟨[]⟩) H)
theorem q7 (P : PT) (N1 : NTy k0 Pr) : QB Try.prog T0 67 o7 (cnd 35 (En 67 k0 (B6 P N1)) (ret P)) k0 (B7 P N1) := fun _ _ _ _ _ _ _ _  => by kernel_rfl
def L1 (P : PT) (x0 : Value) (x1 x8 : Int) (x9 : Nat) (x10 x11 : Int) (H : AHeap) : Prop :=
  ∃ (I : NTy k0 Pr) (μ : NTy k0 (AHeap → Nat)), I x0 x1 x8 x9 x10 x11 H ∧ ∀ y0 y1 y8 y9 y10 y11 G, I y0 y1 y8 y9 y10 y11 G → B7 P (fun z0 z1 z8 z9 z10 z11 G' => I z0 z1 z8 z9 z10 z11 G' ∧ μ z0 z1 z8 z9 z10 z11 G' < μ y0 y1 y8 y9 y10 y11 G) y0 y1 y8 y9 y10 y11 G
theorem l1 (P : PT) : LQ k0 (L1 P) (B7 P) := fun ⟨_,_,_,_,_,_,_⟩ _ ⟨I, μ, h0, hI⟩ => ⟨apT _ I, apT _ μ, h0, fun ⟨_,_,_,_,_,_,_⟩ _ h => hI _ _ _ _ _ _ _  h⟩
abbrev k2 : Sk := [(0,.v),(1,.i .i64),(8,.i .i64),(9,.x),(10,.i .u64)]
noncomputable def o8 := ob Try.f201 [.r,.r,.l,.r,.r,.l]
def B8 (P : PT) (x0 : Value) (x1 x8 : Int) (x9 : Nat) (x10 : Int) (H : AHeap) : Prop :=
  L1 P x0 x1 x8 x9 x10 (IntKind.i64.wrap ((IntKind.i64.wrap (x1 + (IntKind.i64.wrap ((IntKind.i64.wrap (Int.tdiv x8 4)) * 2)))) - 1)) H
theorem q8 (P : PT) : QB Try.prog T0 67 o8 (En 67 k0 (L1 P)) k2 (B8 P) := fun _ _ _ _ _ _ _  => by kernel_rfl
abbrev k3 : Sk := [(0,.v),(1,.i .i64),(8,.i .i64),(9,.x)]
noncomputable def o9 := ob Try.f201 [.r,.r,.l,.r,.l]
def B9 (P : PT) (x0 : Value) (x1 x8 : Int) (x9 : Nat) (H : AHeap) : Prop :=
  AC Try.prog T0 184 [(Value.int .i64 x8)] H (fun v1 H2 => asI .u64 v1 (fun v3 => B8 P x0 x1 x8 x9 v3 H2))
theorem q9 (P : PT) : QB Try.prog T0 67 o9 (En 67 k2 (B8 P)) k3 (B9 P) := fun _ _ _ _ _ _  => by kernel_rfl
abbrev k4 : Sk := [(0,.v),(1,.i .i64),(8,.i .i64)]
noncomputable def o10 := ob Try.f201 [.r,.r,.l,.l]
def B10 (P : PT) (x0 : Value) (x1 x8 : Int) (H : AHeap) : Prop :=
  newK H [(Value.int .u64 0)] 177 (fun b1 H2 => stK H2 b1 0 [(Value.int .u64 (IntKind.u64.wrap x8))] (fun H3 => B9 P x0 x1 x8 b1 H3))
theorem q10 (P : PT) : QB Try.prog T0 67 o10 (En 67 k3 (B9 P)) k4 (B10 P) := fun _ _ _ _ _  => by kernel_rfl
noncomputable def o11 := ob Try.f201 [.r,.l]
def B11 (P : PT) (x0 : Value) (x1 x8 : Int) (H : AHeap) : Prop :=
  pif (decide ((x8 : Int) ≥ 8)) (B10 P x0 x1 x8 H) (P (Value.tuple ⟨[]⟩) H)
theorem q11 (P : PT) : QB Try.prog T0 67 o11 (cnd 17 (En 67 k4 (B10 P)) (ret P)) k4 (B11 P) := fun _ _ _ _ _  => by kernel_rfl
abbrev k5 : Sk := [(0,.v),(1,.i .i64),(2,.i .i64)]
noncomputable def o12 := ob Try.f201 [.l]
def B12 (P : PT) (x0 : Value) (x1 x2 : Int) (H : AHeap) : Prop :=
  B11 P x0 x1 (IntKind.i64.wrap (x2 - x1)) H
theorem q12 (P : PT) : QB Try.prog T0 67 o12 (En 67 k4 (B11 P)) k5 (B12 P) := fun _ _ _ _ _  => by kernel_rfl
noncomputable def code : Code := (.seq (.region 0 ⟨o12⟩ false) (.seq (.region 1 ⟨o11⟩ false) (.cond (.tmp 17) (.seq (.region 2 ⟨o10⟩ false) (.seq (.region 3 ⟨o9⟩ false) (.seq (.region 4 ⟨o8⟩ false) (.block 0 (.loop (.seq (.seq (.region 5 ⟨o7⟩ false) (.cond (.tmp 35) .skip (.exit 0))) (.seq (.block 1 (.seq (.region 7 ⟨o6⟩ false) (.seq (.seq (.region 8 ⟨o5⟩ false) (.cond (.tmp 45) (.region 9 ⟨o4⟩ false) .skip)) (.region 10 ⟨o3⟩ true)))) (.region 6 ⟨o2⟩ false)))))))) .skip)))
theorem body : Try.f201.body = some code := by kernel_rfl
theorem main (P : PT) : ∀ env H, (En 67 k5 (B12 P)) env H → AW Try.prog T0 code env H (mkQ (ret P) (fun _ _ _ => False) (ret P)) :=
  (r_seq (rB T0_ok (q12 P)) (r_seq (rB T0_ok (q11 P)) (r_cond rfl (r_seq (rB T0_ok (q10 P)) (r_seq (rB T0_ok (q9 P)) (r_seq (rB T0_ok (q8 P)) (r_block (rL (l1 P) (fun N1 => (r_seq (r_seq (rB T0_ok (q7 P N1)) (r_cond rfl r_skip (r_exit (fun _ _ h => h)))) (r_seq (r_block (r_seq (rB T0_ok (q6 P N1)) (r_seq (r_seq (rB T0_ok (q5 P N1)) (r_cond rfl (rB T0_ok (q4 P N1)) r_skip)) (rD T0_ok mixed [(0, false), (1, false), (2, false), (3, false), (4, false), (5, false), (6, false), (7, false), (8, false), (9, false), (10, false), (11, false), (12, false), (13, false), (14, false), (15, false), (16, false), (17, false), (18, false), (19, false)] (by kernel_rfl) (q3 P N1))))) (rB T0_ok (q2 P N1)))))))))) r_skip)))
theorem ac (P : PT) (x0 : Value) (x1 x2 : Int) (x3 : Value) (H : AHeap) (h : B12 P x0 x1 x2 H) : AC Try.prog T0 201 [x0, (Value.int .i64 x1), (Value.int .i64 x2), x3] H P :=
  r_fn T0_ok (c := code) (n := 67) Try.func201 body (by kernel_rfl) (main P) (En_mk (x0, x1, x2, ()) (by kernel_rfl) ⟨by kernel_rfl, by kernel_rfl, by kernel_rfl, trivial⟩ h)

end F201
end Go.Proofs
