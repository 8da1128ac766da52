import Derived.Test.YtfcflpcmjlbedabT
set_option linter.unusedVariables false
set_option maxRecDepth 100000
namespace Go.Proofs
open Go.Abs
-- loop.example/g01329/laws.FnExactResistanceOf
namespace F5
noncomputable def ret (P : PT) : EP := retE T0 40 Try.f5 P
abbrev k0 : Sk := []
noncomputable def o1 := ob Try.f5 [.r,.r,.r,.r,.r,.r,.r,.r,.r,.l]
def B1 (P : PT) (H : AHeap) : Prop :=
  P (Value.bool true) H
theorem q1 (P : PT) : QB Try.prog T0 40 o1 (ret P) k0 (B1 P) := fun _ _  => by kernel_rfl
noncomputable def o2 := ob Try.f5 [.r,.r,.r,.r,.r,.r,.r,.r,.l,.r,.l,.l]
def B2 (P : PT) (H : AHeap) : Prop :=
  P (Value.bool false) H
theorem q2 (P : PT) : QB Try.prog T0 40 o2 (ret P) k0 (B2 P) := fun _ _  => by kernel_rfl
abbrev k1 : Sk := [(1,.x),(6,.x)]
noncomputable def o3 := ob Try.f5 [.r,.r,.r,.r,.r,.r,.r,.r,.l,.l]
def B3 (P : PT) (x1 x6 : Nat) (H : AHeap) : Prop :=
  ldI .i64 H x6 0 (fun v1 => ld1 H x6 1 (fun v2 => ldI .i64 H x1 0 (fun v3 => ld1 H x1 1 (fun v4 => AC Try.prog T0 14 [(Value.agg ⟨[(Value.int .i64 v3), v4]⟩)] H (fun v5 H6 => agg2 v5 (fun v7 v8 => asI .i64 v7 (fun v9 => (AHeap.le H H6) ∧ (AC Try.prog T0 18 [(Value.agg ⟨[(Value.int .i64 v1), v2]⟩), (Value.agg ⟨[(Value.int .i64 v9), v8]⟩)] H6 (fun v11 H12 => asB v11 (fun v13 => pif (!v13) (B2 P H12) (B1 P H12)))))))))))
theorem q3 (P : PT) : QD Try.prog T0 40 o3 [(0, false), (1, false), (2, true), (3, false), (4, false)] (cnd 39 (En 40 k0 (B2 P)) (En 40 k0 (B1 P))) k1 (B3 P) := fun _ _ _ _  => by kernel_rfl
noncomputable def o4 := ob Try.f5 [.r,.r,.r,.r,.r,.r,.r,.l,.r,.l,.l]
def B4 (P : PT) (H : AHeap) : Prop :=
  P (Value.bool false) H
theorem q4 (P : PT) : QB Try.prog T0 40 o4 (ret P) k0 (B4 P) := fun _ _  => by kernel_rfl
abbrev k2 : Sk := [(1,.x),(4,.i .i64),(5,.i .i64),(6,.x),(7,.i .i64),(8,.i .i64)]
noncomputable def o5 := ob Try.f5 [.r,.r,.r,.r,.r,.r,.r,.l,.l]
def B5 (P : PT) (x1 : Nat) (x4 x5 : Int) (x6 : Nat) (x7 x8 : Int) (H : AHeap) : Prop :=
  pif ((x7 : Int) != x4) (B4 P H) (pif ((x8 : Int) != x5) (B4 P H) (B3 P x1 x6 H))
theorem q5 (P : PT) : QB Try.prog T0 40 o5 (cnd 34 (En 40 k0 (B4 P)) (En 40 k1 (B3 P))) k2 (B5 P) := fun _ _ _ _ _ _ _ _  => by kernel_rfl
abbrev k3 : Sk := [(1,.x),(4,.i .i64),(5,.i .i64),(6,.x)]
noncomputable def o6 := ob Try.f5 [.r,.r,.r,.r,.r,.r,.l]
def B6 (P : PT) (x1 : Nat) (x4 x5 : Int) (x6 : Nat) (H : AHeap) : Prop :=
  ldI .i64 H x6 0 (fun v1 => ld1 H x6 1 (fun v2 => AC Try.prog T0 27 [(Value.agg ⟨[(Value.int .i64 v1), v2]⟩)] H (fun v3 H4 => tup2 v3 (fun v5 v6 => asI .i64 v5 (fun v7 => asI .i64 v6 (fun v8 => B5 P x1 x4 x5 x6 v7 v8 H4))))))
theorem q6 (P : PT) : QB Try.prog T0 40 o6 (En 40 k2 (B5 P)) k3 (B6 P) := fun _ _ _ _ _ _  => by kernel_rfl
abbrev k4 : Sk := [(1,.x),(4,.i .i64),(5,.i .i64)]
noncomputable def o7 := ob Try.f5 [.r,.r,.r,.r,.r,.l]
def B7 (P : PT) (x1 : Nat) (x4 x5 : Int) (H : AHeap) : Prop :=
  ldI .i64 H x1 0 (fun v1 => ld1 H x1 1 (fun v2 => AC Try.prog T0 14 [(Value.agg ⟨[(Value.int .i64 v1), v2]⟩)] H (fun v3 H4 => agg2 v3 (fun v5 v6 => asI .i64 v5 (fun v7 => newK H4 [(Value.int .i64 0), (Value.slice none 0 0)] 32 (fun b9 H10 => stK H10 b9 0 [(Value.int .i64 v7), v6] (fun H11 => B6 P x1 x4 x5 b9 H11)))))))
theorem q7 (P : PT) : QB Try.prog T0 40 o7 (En 40 k3 (B6 P)) k4 (B7 P) := fun _ _ _ _ _  => by kernel_rfl
abbrev k5 : Sk := [(1,.x)]
noncomputable def o8 := ob Try.f5 [.r,.r,.r,.r,.l]
def B8 (P : PT) (x1 : Nat) (H : AHeap) : Prop :=
  ldI .i64 H x1 0 (fun v1 => ld1 H x1 1 (fun v2 => AC Try.prog T0 14 [(Value.agg ⟨[(Value.int .i64 v1), v2]⟩)] H (fun v3 H4 => agg2 v3 (fun v5 v6 => asI .i64 v5 (fun v7 => AC Try.prog T0 26 [(Value.agg ⟨[(Value.int .i64 v7), v6]⟩)] H4 (fun v9 H10 => tup2 v9 (fun v11 v12 => asI .i64 v11 (fun v13 => asI .i64 v12 (fun v14 => B7 P x1 v13 v14 H10)))))))))
theorem q8 (P : PT) : QB Try.prog T0 40 o8 (En 40 k4 (B7 P)) k5 (B8 P) := fun _ _ _  => by kernel_rfl
noncomputable def o9 := ob Try.f5 [.r,.r,.r,.l,.r,.l,.l]
def B9 (P : PT) (H : AHeap) : Prop :=
  P (Value.bool true) H
theorem q9 (P : PT) : QB Try.prog T0 40 o9 (ret P) k0 (B9 P) := fun _ _  => by kernel_rfl
abbrev k6 : Sk := [(1,.x),(3,.i .i64)]
noncomputable def o10 := ob Try.f5 [.r,.r,.r,.l,.l]
def B10 (P : PT) (x1 : Nat) (x3 : Int) (H : AHeap) : Prop :=
  pif (decide ((x3 : Int) < 0)) (B9 P H) (B8 P x1 H)
theorem q10 (P : PT) : QB Try.prog T0 40 o10 (cnd 13 (En 40 k0 (B9 P)) (En 40 k5 (B8 P))) k6 (B10 P) := fun _ _ _ _  => by kernel_rfl
noncomputable def o11 := ob Try.f5 [.r,.r,.l]
def B11 (P : PT) (x1 : Nat) (x3 : Int) (H : AHeap) : Prop :=
  ldI .i64 H x1 0 (fun v1 => ld1 H x1 1 (fun v2 => AC Try.prog T0 12 [(Value.agg ⟨[(Value.int .i64 v1), v2]⟩), (Value.int .i64 x3)] H (fun v3 H4 => asI .i64 v3 (fun v5 => B10 P x1 v5 H4))))
theorem q11 (P : PT) : QB Try.prog T0 40 o11 (En 40 k6 (B10 P)) k6 (B11 P) := fun _ _ _ _  => by kernel_rfl
noncomputable def o12 := ob Try.f5 [.r,.l]
def B12 (P : PT) (x1 : Nat) (H : AHeap) : Prop :=
  B11 P x1 1048576 H
theorem q12 (P : PT) : QB Try.prog T0 40 o12 (En 40 k6 (B11 P)) k5 (B12 P) := fun _ _ _  => by kernel_rfl
abbrev k7 : Sk := [(0,.g [.i,.v])]
noncomputable def o13 := ob Try.f5 [.l]
def B13 (P : PT) (x0a : Int) (x0b : Value) (H : AHeap) : Prop :=
  newK H [(Value.int .i64 x0a), x0b] 24 (fun b1 H2 => B12 P b1 H2)
theorem q13 (P : PT) : QB Try.prog T0 40 o13 (En 40 k5 (B12 P)) k7 (B13 P) := fun _ _ _ _  => by kernel_rfl
noncomputable def code : Code := (.seq (.region 0 ⟨o13⟩ false) (.seq (.region 1 ⟨o12⟩ false) (.seq (.region 2 ⟨o11⟩ false) (.seq (.seq (.region 3 ⟨o10⟩ false) (.cond (.tmp 13) (.seq (.region 4 ⟨o9⟩ false) .ret) .skip)) (.seq (.region 5 ⟨o8⟩ false) (.seq (.region 6 ⟨o7⟩ false) (.seq (.region 7 ⟨o6⟩ false) (.seq (.seq (.region 8 ⟨o5⟩ false) (.cond (.tmp 34) (.seq (.region 9 ⟨o4⟩ false) .ret) .skip)) (.seq (.seq (.region 10 ⟨o3⟩ true) (.cond (.tmp 39) (.seq (.region 11 ⟨o2⟩ false) .ret) .skip)) (.seq (.region 12 ⟨o1⟩ false) .ret))))))))))
theorem body : Try.f5.body = some code := by kernel_rfl
theorem main (P : PT) : ∀ env H, (En 40 k7 (B13 P)) env H → AW Try.prog T0 code env H (mkQ (ret P) (fun _ _ _ => False) (ret P)) :=
  (r_seq (rB T0_ok (q13 P)) (r_seq (rB T0_ok (q12 P)) (r_seq (rB T0_ok (q11 P)) (r_seq (r_seq (rB T0_ok (q10 P)) (r_cond rfl (r_seq (rB T0_ok (q9 P)) r_ret) r_skip)) (r_seq (rB T0_ok (q8 P)) (r_seq (rB T0_ok (q7 P)) (r_seq (rB T0_ok (q6 P)) (r_seq (r_seq (rB T0_ok (q5 P)) (r_cond rfl (r_seq (rB T0_ok (q4 P)) r_ret) r_skip)) (r_seq (r_seq (rD T0_ok mixed [(0, false), (1, false), (2, true), (3, false), (4, false)] (by kernel_rfl) (q3 P)) (r_cond rfl (r_seq (rB T0_ok (q2 P)) r_ret) r_skip)) (r_seq (rB T0_ok (q1 P)) r_ret))))))))))
theorem ac (P : PT) (x0a : Int) (x0b : Value) (H : AHeap) (h : B13 P x0a x0b H) : AC Try.prog T0 5 [(Value.agg ⟨[(Value.int .i64 x0a), x0b]⟩)] H P :=
  r_fn T0_ok (c := code) (n := 40) Try.func5 body (by kernel_rfl) (main P) (En_mk (x0a, x0b, ()) (by kernel_rfl) ⟨by kernel_rfl, trivial⟩ h)

end F5
-- loop.example/g01329/laws.FnExactWeakSet
namespace F7
noncomputable def ret (P : PT) : EP := retE T0 96 Try.f7 P
abbrev k0 : Sk := []
noncomputable def o1 := ob Try.f7 [.r,.r,.r,.r,.r,.r,.r,.r,.r,.r,.r,.r,.r,.r,.r,.r,.r,.r,.r,.r,.r,.r,.r,.r,.l]
def B1 (P : PT) (H : AHeap) : Prop :=
  P (Value.bool true) H
theorem q1 (P : PT) : QB Try.prog T0 96 o1 (ret P) k0 (B1 P) := fun _ _  => by kernel_rfl
noncomputable def o2 := ob Try.f7 [.r,.r,.r,.r,.r,.r,.r,.r,.r,.r,.r,.r,.r,.r,.r,.r,.r,.r,.r,.r,.r,.r,.r,.l,.r,.l,.l]
def B2 (P : PT) (H : AHeap) : Prop :=
  P (Value.bool false) H
theorem q2 (P : PT) : QB Try.prog T0 96 o2 (ret P) k0 (B2 P) := fun _ _  => by kernel_rfl
abbrev k1 : Sk := [(10,.i .i64),(11,.i .i64)]
noncomputable def o3 := ob Try.f7 [.r,.r,.r,.r,.r,.r,.r,.r,.r,.r,.r,.r,.r,.r,.r,.r,.r,.r,.r,.r,.r,.r,.r,.l,.l]
def B3 (P : PT) (x10 x11 : Int) (H : AHeap) : Prop :=
  pif ((x11 : Int) != x10) (B2 P H) (B1 P H)
theorem q3 (P : PT) : QB Try.prog T0 96 o3 (cnd 95 (En 96 k0 (B2 P)) (En 96 k0 (B1 P))) k1 (B3 P) := fun _ _ _ _  => by kernel_rfl
noncomputable def o4 := ob Try.f7 [.r,.r,.r,.r,.r,.r,.r,.r,.r,.r,.r,.r,.r,.r,.r,.r,.r,.r,.r,.r,.r,.r,.l,.r,.l,.l]
def B4 (P : PT) (H : AHeap) : Prop :=
  P (Value.bool false) H
theorem q4 (P : PT) : QB Try.prog T0 96 o4 (ret P) k0 (B4 P) := fun _ _  => by kernel_rfl
noncomputable def o5 := ob Try.f7 [.r,.r,.r,.r,.r,.r,.r,.r,.r,.r,.r,.r,.r,.r,.r,.r,.r,.r,.r,.r,.r,.r,.l,.l]
def B5 (P : PT) (x10 x11 : Int) (H : AHeap) : Prop :=
  pif (decide ((x11 : Int) < 0)) (B4 P H) (B3 P x10 x11 H)
theorem q5 (P : PT) : QB Try.prog T0 96 o5 (cnd 92 (En 96 k0 (B4 P)) (En 96 k1 (B3 P))) k1 (B5 P) := fun _ _ _ _  => by kernel_rfl
abbrev k2 : Sk := [(7,.v),(10,.i .i64),(11,.i .i64)]
noncomputable def o6 := ob Try.f7 [.r,.r,.r,.r,.r,.r,.r,.r,.r,.r,.r,.r,.r,.r,.r,.r,.r,.r,.r,.r,.r,.l]
def B6 (P : PT) (x7 : Value) (x10 x11 : Int) (H : AHeap) : Prop :=
  AC Try.prog T0 34 [x7, (Value.int .i64 x11)] H (fun v1 H2 => asI .i64 v1 (fun v3 => B5 P x10 v3 H2))
theorem q6 (P : PT) : QB Try.prog T0 96 o6 (En 96 k1 (B5 P)) k2 (B6 P) := fun _ _ _ _ _  => by kernel_rfl
abbrev k3 : Sk := [(7,.v),(10,.i .i64)]
noncomputable def o7 := ob Try.f7 [.r,.r,.r,.r,.r,.r,.r,.r,.r,.r,.r,.r,.r,.r,.r,.r,.r,.r,.r,.r,.l]
def B7 (P : PT) (x7 : Value) (x10 : Int) (H : AHeap) : Prop :=
  B6 P x7 x10 1 H
theorem q7 (P : PT) : QB Try.prog T0 96 o7 (En 96 k2 (B6 P)) k3 (B7 P) := fun _ _ _ _  => by kernel_rfl
noncomputable def o8 := ob Try.f7 [.r,.r,.r,.r,.r,.r,.r,.r,.r,.r,.r,.r,.r,.r,.r,.r,.r,.r,.r,.l,.r,.l,.l]
def B8 (P : PT) (H : AHeap) : Prop :=
  P (Value.bool false) H
theorem q8 (P : PT) : QB Try.prog T0 96 o8 (ret P) k0 (B8 P) := fun _ _  => by kernel_rfl
abbrev k4 : Sk := [(4,.v),(5,.i .i64),(7,.v),(10,.i .i64),(12,.v),(13,.i .i64)]
noncomputable def o9 := ob Try.f7 [.r,.r,.r,.r,.r,.r,.r,.r,.r,.r,.r,.r,.r,.r,.r,.r,.r,.r,.r,.l,.l]
def B9 (P : PT) (x4 : Value) (x5 : Int) (x7 : Value) (x10 : Int) (x12 : Value) (x13 : Int) (H : AHeap) : Prop :=
  AC Try.prog T0 19 [x12, x4] H (fun v1 H2 => asB v1 (fun v3 => pif (!v3) (B8 P H2) (pif ((x13 : Int) != x5) (B8 P H2) (B7 P x7 x10 H2))))
theorem q9 (P : PT) : QB Try.prog T0 96 o9 (cnd 87 (En 96 k0 (B8 P)) (En 96 k3 (B7 P))) k4 (B9 P) := fun _ _ _ _ _ _ _ _  => by kernel_rfl
abbrev k5 : Sk := [(1,.x),(4,.v),(5,.i .i64),(7,.v),(10,.i .i64)]
noncomputable def o10 := ob Try.f7 [.r,.r,.r,.r,.r,.r,.r,.r,.r,.r,.r,.r,.r,.r,.r,.r,.r,.r,.l]
def B10 (P : PT) (x1 : Nat) (x4 : Value) (x5 : Int) (x7 : Value) (x10 : Int) (H : AHeap) : Prop :=
  ldI .i64 H x1 0 (fun v1 => ld1 H x1 1 (fun v2 => AC Try.prog T0 14 [(Value.agg ⟨[(Value.int .i64 v1), v2]⟩)] H (fun v3 H4 => agg2 v3 (fun v5 v6 => asI .i64 v5 (fun v7 => AC Try.prog T0 33 [(Value.agg ⟨[(Value.int .i64 v7), v6]⟩)] H4 (fun v9 H10 => tup2 v9 (fun v11 v12 => asI .i64 v12 (fun v14 => B9 P x4 x5 x7 x10 v11 v14 H10))))))))
theorem q10 (P : PT) : QB Try.prog T0 96 o10 (En 96 k4 (B9 P)) k5 (B10 P) := fun _ _ _ _ _ _ _  => by kernel_rfl
noncomputable def o11 := ob Try.f7 [.r,.r,.r,.r,.r,.r,.r,.r,.r,.r,.r,.r,.r,.r,.r,.r,.r,.l,.r,.l,.l]
def B11 (P : PT) (H : AHeap) : Prop :=
  P (Value.bool false) H
theorem q11 (P : PT) : QB Try.prog T0 96 o11 (ret P) k0 (B11 P) := fun _ _  => by kernel_rfl
abbrev k6 : Sk := [(1,.x),(4,.v),(5,.i .i64),(7,.v),(10,.i .i64),(11,.i .i64)]
noncomputable def o12 := ob Try.f7 [.r,.r,.r,.r,.r,.r,.r,.r,.r,.r,.r,.r,.r,.r,.r,.r,.r,.l,.l]
def B12 (P : PT) (x1 : Nat) (x4 : Value) (x5 : Int) (x7 : Value) (x10 x11 : Int) (H : AHeap) : Prop :=
  pif ((x11 : Int) != x10) (B11 P H) (B10 P x1 x4 x5 x7 x10 H)
theorem q12 (P : PT) : QB Try.prog T0 96 o12 (cnd 72 (En 96 k0 (B11 P)) (En 96 k5 (B10 P))) k6 (B12 P) := fun _ _ _ _ _ _ _ _  => by kernel_rfl
noncomputable def o13 := ob Try.f7 [.r,.r,.r,.r,.r,.r,.r,.r,.r,.r,.r,.r,.r,.r,.r,.r,.l,.r,.l,.l]
def B13 (P : PT) (H : AHeap) : Prop :=
  P (Value.bool false) H
theorem q13 (P : PT) : QB Try.prog T0 96 o13 (ret P) k0 (B13 P) := fun _ _  => by kernel_rfl
noncomputable def o14 := ob Try.f7 [.r,.r,.r,.r,.r,.r,.r,.r,.r,.r,.r,.r,.r,.r,.r,.r,.l,.l]
def B14 (P : PT) (x1 : Nat) (x4 : Value) (x5 : Int) (x7 : Value) (x10 x11 : Int) (H : AHeap) : Prop :=
  pif (decide ((x11 : Int) < 0)) (B13 P H) (B12 P x1 x4 x5 x7 x10 x11 H)
theorem q14 (P : PT) : QB Try.prog T0 96 o14 (cnd 69 (En 96 k0 (B13 P)) (En 96 k6 (B12 P))) k6 (B14 P) := fun _ _ _ _ _ _ _ _  => by kernel_rfl
noncomputable def o15 := ob Try.f7 [.r,.r,.r,.r,.r,.r,.r,.r,.r,.r,.r,.r,.r,.r,.r,.l]
def B15 (P : PT) (x1 : Nat) (x4 : Value) (x5 : Int) (x7 : Value) (x10 x11 : Int) (H : AHeap) : Prop :=
  AC Try.prog T0 34 [x7, (Value.int .i64 x11)] H (fun v1 H2 => asI .i64 v1 (fun v3 => B14 P x1 x4 x5 x7 x10 v3 H2))
theorem q15 (P : PT) : QB Try.prog T0 96 o15 (En 96 k6 (B14 P)) k6 (B15 P) := fun _ _ _ _ _ _ _ _  => by kernel_rfl
noncomputable def o16 := ob Try.f7 [.r,.r,.r,.r,.r,.r,.r,.r,.r,.r,.r,.r,.r,.r,.l]
def B16 (P : PT) (x1 : Nat) (x4 : Value) (x5 : Int) (x7 : Value) (x10 : Int) (H : AHeap) : Prop :=
  B15 P x1 x4 x5 x7 x10 1 H
theorem q16 (P : PT) : QB Try.prog T0 96 o16 (En 96 k6 (B15 P)) k5 (B16 P) := fun _ _ _ _ _ _ _  => by kernel_rfl
noncomputable def o17 := ob Try.f7 [.r,.r,.r,.r,.r,.r,.r,.r,.r,.r,.r,.r,.r,.l]
def B17 (P : PT) (x1 : Nat) (x4 : Value) (x5 : Int) (x7 : Value) (x10 : Int) (H : AHeap) : Prop :=
  AC Try.prog T0 21 [x7, (Value.int .i64 x10)] H (fun v1 H2 => asI .i64 v1 (fun v3 => B16 P x1 x4 x5 x7 v3 H2))
theorem q17 (P : PT) : QB Try.prog T0 96 o17 (En 96 k5 (B16 P)) k5 (B17 P) := fun _ _ _ _ _ _ _  => by kernel_rfl
abbrev k7 : Sk := [(1,.x),(4,.v),(5,.i .i64),(7,.v)]
noncomputable def o18 := ob Try.f7 [.r,.r,.r,.r,.r,.r,.r,.r,.r,.r,.r,.r,.l]
def B18 (P : PT) (x1 : Nat) (x4 : Value) (x5 : Int) (x7 : Value) (H : AHeap) : Prop :=
  B17 P x1 x4 x5 x7 1 H
theorem q18 (P : PT) : QB Try.prog T0 96 o18 (En 96 k5 (B17 P)) k7 (B18 P) := fun _ _ _ _ _ _  => by kernel_rfl
noncomputable def o19 := ob Try.f7 [.r,.r,.r,.r,.r,.r,.r,.r,.r,.r,.r,.l,.r,.l,.l]
def B19 (P : PT) (H : AHeap) : Prop :=
  P (Value.bool false) H
theorem q19 (P : PT) : QB Try.prog T0 96 o19 (ret P) k0 (B19 P) := fun _ _  => by kernel_rfl
abbrev k8 : Sk := [(1,.x),(4,.v),(5,.i .i64),(7,.v),(8,.i .i64),(9,.i .i64)]
noncomputable def o20 := ob Try.f7 [.r,.r,.r,.r,.r,.r,.r,.r,.r,.r,.r,.l,.l]
def B20 (P : PT) (x1 : Nat) (x4 : Value) (x5 : Int) (x7 : Value) (x8 x9 : Int) (H : AHeap) : Prop :=
  pif (decide ((x9 : Int) < 0)) (B19 P H) (AC Try.prog T0 19 [x7, x4] H (fun v1 H2 => asB v1 (fun v3 => pif (!v3) (B19 P H2) (pif ((x8 : Int) != x5) (B19 P H2) (B18 P x1 x4 x5 x7 H2)))))
theorem q20 (P : PT) : QB Try.prog T0 96 o20 (cnd 61 (En 96 k0 (B19 P)) (En 96 k7 (B18 P))) k8 (B20 P) := fun _ _ _ _ _ _ _ _  => by kernel_rfl
abbrev k9 : Sk := [(1,.x),(4,.v),(5,.i .i64),(6,.x),(7,.v),(8,.i .i64),(9,.i .i64)]
noncomputable def o21 := ob Try.f7 [.r,.r,.r,.r,.r,.r,.r,.r,.r,.r,.l]
def B21 (P : PT) (x1 : Nat) (x4 : Value) (x5 : Int) (x6 : Nat) (x7 : Value) (x8 x9 : Int) (H : AHeap) : Prop :=
  ldI .i64 H x6 0 (fun v1 => ld1 H x6 1 (fun v2 => AC Try.prog T0 20 [(Value.agg ⟨[(Value.int .i64 v1), v2]⟩), (Value.int .i64 x9)] H (fun v3 H4 => asI .i64 v3 (fun v5 => B20 P x1 x4 x5 x7 x8 v5 H4))))
theorem q21 (P : PT) : QB Try.prog T0 96 o21 (En 96 k8 (B20 P)) k9 (B21 P) := fun _ _ _ _ _ _ _ _ _  => by kernel_rfl
abbrev k10 : Sk := [(1,.x),(4,.v),(5,.i .i64),(6,.x),(7,.v),(8,.i .i64)]
noncomputable def o22 := ob Try.f7 [.r,.r,.r,.r,.r,.r,.r,.r,.r,.l]
def B22 (P : PT) (x1 : Nat) (x4 : Value) (x5 : Int) (x6 : Nat) (x7 : Value) (x8 : Int) (H : AHeap) : Prop :=
  B21 P x1 x4 x5 x6 x7 x8 1 H
theorem q22 (P : PT) : QB Try.prog T0 96 o22 (En 96 k9 (B21 P)) k10 (B22 P) := fun _ _ _ _ _ _ _ _  => by kernel_rfl
noncomputable def o23 := ob Try.f7 [.r,.r,.r,.r,.r,.r,.r,.r,.l,.r,.l,.l]
def B23 (P : PT) (H : AHeap) : Prop :=
  P (Value.bool false) H
theorem q23 (P : PT) : QB Try.prog T0 96 o23 (ret P) k0 (B23 P) := fun _ _  => by kernel_rfl
noncomputable def o24 := ob Try.f7 [.r,.r,.r,.r,.r,.r,.r,.r,.l,.l]
def B24 (P : PT) (x1 : Nat) (x4 : Value) (x5 : Int) (x6 : Nat) (x7 : Value) (x8 : Int) (H : AHeap) : Prop :=
  ldI .i64 H x6 0 (fun v1 => ld1 H x6 1 (fun v2 => ldI .i64 H x1 0 (fun v3 => ld1 H x1 1 (fun v4 => AC Try.prog T0 14 [(Value.agg ⟨[(Value.int .i64 v3), v4]⟩)] H (fun v5 H6 => agg2 v5 (fun v7 v8 => asI .i64 v7 (fun v9 => (AHeap.le H H6) ∧ (AC Try.prog T0 18 [(Value.agg ⟨[(Value.int .i64 v1), v2]⟩), (Value.agg ⟨[(Value.int .i64 v9), v8]⟩)] H6 (fun v11 H12 => asB v11 (fun v13 => pif (!v13) (B23 P H12) (B22 P x1 x4 x5 x6 x7 x8 H12)))))))))))
theorem q24 (P : PT) : QD Try.prog T0 96 o24 [(0, false), (1, false), (2, true), (3, false), (4, false)] (cnd 45 (En 96 k0 (B23 P)) (En 96 k10 (B22 P))) k10 (B24 P) := fun _ _ _ _ _ _ _ _  => by kernel_rfl
noncomputable def o25 := ob Try.f7 [.r,.r,.r,.r,.r,.r,.r,.l,.r,.l,.l]
def B25 (P : PT) (H : AHeap) : Prop :=
  P (Value.bool false) H
theorem q25 (P : PT) : QB Try.prog T0 96 o25 (ret P) k0 (B25 P) := fun _ _  => by kernel_rfl
noncomputable def o26 := ob Try.f7 [.r,.r,.r,.r,.r,.r,.r,.l,.l]
def B26 (P : PT) (x1 : Nat) (x4 : Value) (x5 : Int) (x6 : Nat) (x7 : Value) (x8 : Int) (H : AHeap) : Prop :=
  AC Try.prog T0 19 [x7, x4] H (fun v1 H2 => asB v1 (fun v3 => pif (!v3) (B25 P H2) (pif ((x8 : Int) != x5) (B25 P H2) (B24 P x1 x4 x5 x6 x7 x8 H2))))
theorem q26 (P : PT) : QB Try.prog T0 96 o26 (cnd 40 (En 96 k0 (B25 P)) (En 96 k10 (B24 P))) k10 (B26 P) := fun _ _ _ _ _ _ _ _  => by kernel_rfl
abbrev k11 : Sk := [(1,.x),(4,.v),(5,.i .i64),(6,.x)]
noncomputable def o27 := ob Try.f7 [.r,.r,.r,.r,.r,.r,.l]
def B27 (P : PT) (x1 : Nat) (x4 : Value) (x5 : Int) (x6 : Nat) (H : AHeap) : Prop :=
  ldI .i64 H x6 0 (fun v1 => ld1 H x6 1 (fun v2 => AC Try.prog T0 33 [(Value.agg ⟨[(Value.int .i64 v1), v2]⟩)] H (fun v3 H4 => tup2 v3 (fun v5 v6 => asI .i64 v6 (fun v8 => B26 P x1 x4 x5 x6 v5 v8 H4)))))
theorem q27 (P : PT) : QB Try.prog T0 96 o27 (En 96 k10 (B26 P)) k11 (B27 P) := fun _ _ _ _ _ _  => by kernel_rfl
abbrev k12 : Sk := [(1,.x),(4,.v),(5,.i .i64)]
noncomputable def o28 := ob Try.f7 [.r,.r,.r,.r,.r,.l]
def B28 (P : PT) (x1 : Nat) (x4 : Value) (x5 : Int) (H : AHeap) : Prop :=
  ldI .i64 H x1 0 (fun v1 => ld1 H x1 1 (fun v2 => AC Try.prog T0 14 [(Value.agg ⟨[(Value.int .i64 v1), v2]⟩)] H (fun v3 H4 => agg2 v3 (fun v5 v6 => asI .i64 v5 (fun v7 => newK H4 [(Value.int .i64 0), (Value.slice none 0 0)] 32 (fun b9 H10 => stK H10 b9 0 [(Value.int .i64 v7), v6] (fun H11 => B27 P x1 x4 x5 b9 H11)))))))
theorem q28 (P : PT) : QB Try.prog T0 96 o28 (En 96 k11 (B27 P)) k12 (B28 P) := fun _ _ _ _ _  => by kernel_rfl
abbrev k13 : Sk := [(1,.x)]
noncomputable def o29 := ob Try.f7 [.r,.r,.r,.r,.l]
def B29 (P : PT) (x1 : Nat) (H : AHeap) : Prop :=
  ldI .i64 H x1 0 (fun v1 => ld1 H x1 1 (fun v2 => AC Try.prog T0 14 [(Value.agg ⟨[(Value.int .i64 v1), v2]⟩)] H (fun v3 H4 => agg2 v3 (fun v5 v6 => asI .i64 v5 (fun v7 => AC Try.prog T0 32 [(Value.agg ⟨[(Value.int .i64 v7), v6]⟩)] H4 (fun v9 H10 => tup2 v9 (fun v11 v12 => asI .i64 v12 (fun v14 => B28 P x1 v11 v14 H10))))))))
theorem q29 (P : PT) : QB Try.prog T0 96 o29 (En 96 k12 (B28 P)) k13 (B29 P) := fun _ _ _  => by kernel_rfl
noncomputable def o30 := ob Try.f7 [.r,.r,.r,.l,.r,.l,.l]
def B30 (P : PT) (H : AHeap) : Prop :=
  P (Value.bool true) H
theorem q30 (P : PT) : QB Try.prog T0 96 o30 (ret P) k0 (B30 P) := fun _ _  => by kernel_rfl
abbrev k14 : Sk := [(1,.x),(3,.i .i64)]
noncomputable def o31 := ob Try.f7 [.r,.r,.r,.l,.l]
def B31 (P : PT) (x1 : Nat) (x3 : Int) (H : AHeap) : Prop :=
  pif (decide ((x3 : Int) < 0)) (B30 P H) (B29 P x1 H)
theorem q31 (P : PT) : QB Try.prog T0 96 o31 (cnd 18 (En 96 k0 (B30 P)) (En 96 k13 (B29 P))) k14 (B31 P) := fun _ _ _ _  => by kernel_rfl
noncomputable def o32 := ob Try.f7 [.r,.r,.l]
def B32 (P : PT) (x1 : Nat) (x3 : Int) (H : AHeap) : Prop :=
  ldI .i64 H x1 0 (fun v1 => ld1 H x1 1 (fun v2 => AC Try.prog T0 12 [(Value.agg ⟨[(Value.int .i64 v1), v2]⟩), (Value.int .i64 x3)] H (fun v3 H4 => asI .i64 v3 (fun v5 => B31 P x1 v5 H4))))
theorem q32 (P : PT) : QB Try.prog T0 96 o32 (En 96 k14 (B31 P)) k14 (B32 P) := fun _ _ _ _  => by kernel_rfl
noncomputable def o33 := ob Try.f7 [.r,.l]
def B33 (P : PT) (x1 : Nat) (H : AHeap) : Prop :=
  B32 P x1 1048576 H
theorem q33 (P : PT) : QB Try.prog T0 96 o33 (En 96 k14 (B32 P)) k13 (B33 P) := fun _ _ _  => by kernel_rfl
abbrev k15 : Sk := [(0,.g [.i,.v])]
noncomputable def o34 := ob Try.f7 [.l]
def B34 (P : PT) (x0a : Int) (x0b : Value) (H : AHeap) : Prop :=
  newK H [(Value.int .i64 x0a), x0b] 24 (fun b1 H2 => B33 P b1 H2)
theorem q34 (P : PT) : QB Try.prog T0 96 o34 (En 96 k13 (B33 P)) k15 (B34 P) := fun _ _ _ _  => by kernel_rfl
noncomputable def code : Code := (.seq (.region 0 ⟨o34⟩ false) (.seq (.region 1 ⟨o33⟩ false) (.seq (.region 2 ⟨o32⟩ false) (.seq (.seq (.region 3 ⟨o31⟩ false) (.cond (.tmp 18) (.seq (.region 4 ⟨o30⟩ false) .ret) .skip)) (.seq (.region 5 ⟨o29⟩ false) (.seq (.region 6 ⟨o28⟩ false) (.seq (.region 7 ⟨o27⟩ false) (.seq (.seq (.region 8 ⟨o26⟩ false) (.cond (.tmp 40) (.seq (.region 9 ⟨o25⟩ false) .ret) .skip)) (.seq (.seq (.region 10 ⟨o24⟩ true) (.cond (.tmp 45) (.seq (.region 11 ⟨o23⟩ false) .ret) .skip)) (.seq (.region 12 ⟨o22⟩ false) (.seq (.region 13 ⟨o21⟩ false) (.seq (.seq (.region 14 ⟨o20⟩ false) (.cond (.tmp 61) (.seq (.region 15 ⟨o19⟩ false) .ret) .skip)) (.seq (.region 16 ⟨o18⟩ false) (.seq (.region 17 ⟨o17⟩ false) (.seq (.region 18 ⟨o16⟩ false) (.seq (.region 19 ⟨o15⟩ false) (.seq (.seq (.region 20 ⟨o14⟩ false) (.cond (.tmp 69) (.seq (.region 21 ⟨o13⟩ false) .ret) .skip)) (.seq (.seq (.region 22 ⟨o12⟩ false) (.cond (.tmp 72) (.seq (.region 23 ⟨o11⟩ false) .ret) .skip)) (.seq (.region 24 ⟨o10⟩ false) (.seq (.seq (.region 25 ⟨o9⟩ false) (.cond (.tmp 87) (.seq (.region 26 ⟨o8⟩ false) .ret) .skip)) (.seq (.region 27 ⟨o7⟩ false) (.seq (.region 28 ⟨o6⟩ false) (.seq (.seq (.region 29 ⟨o5⟩ false) (.cond (.tmp 92) (.seq (.region 30 ⟨o4⟩ false) .ret) .skip)) (.seq (.seq (.region 31 ⟨o3⟩ false) (.cond (.tmp 95) (.seq (.region 32 ⟨o2⟩ false) .ret) .skip)) (.seq (.region 33 ⟨o1⟩ false) .ret)))))))))))))))))))))))))
theorem body : Try.f7.body = some code := by kernel_rfl
theorem main (P : PT) : ∀ env H, (En 96 k15 (B34 P)) env H → AW Try.prog T0 code env H (mkQ (ret P) (fun _ _ _ => False) (ret P)) :=
  (r_seq (rB T0_ok (q34 P)) (r_seq (rB T0_ok (q33 P)) (r_seq (rB T0_ok (q32 P)) (r_seq (r_seq (rB T0_ok (q31 P)) (r_cond rfl (r_seq (rB T0_ok (q30 P)) r_ret) r_skip)) (r_seq (rB T0_ok (q29 P)) (r_seq (rB T0_ok (q28 P)) (r_seq (rB T0_ok (q27 P)) (r_seq (r_seq (rB T0_ok (q26 P)) (r_cond rfl (r_seq (rB T0_ok (q25 P)) r_ret) r_skip)) (r_seq (r_seq (rD T0_ok mixed [(0, false), (1, false), (2, true), (3, false), (4, false)] (by kernel_rfl) (q24 P)) (r_cond rfl (r_seq (rB T0_ok (q23 P)) r_ret) r_skip)) (r_seq (rB T0_ok (q22 P)) (r_seq (rB T0_ok (q21 P)) (r_seq (r_seq (rB T0_ok (q20 P)) (r_cond rfl (r_seq (rB T0_ok (q19 P)) r_ret) r_skip)) (r_seq (rB T0_ok (q18 P)) (r_seq (rB T0_ok (q17 P)) (r_seq (rB T0_ok (q16 P)) (r_seq (rB T0_ok (q15 P)) (r_seq (r_seq (rB T0_ok (q14 P)) (r_cond rfl (r_seq (rB T0_ok (q13 P)) r_ret) r_skip)) (r_seq (r_seq (rB T0_ok (q12 P)) (r_cond rfl (r_seq (rB T0_ok (q11 P)) r_ret) r_skip)) (r_seq (rB T0_ok (q10 P)) (r_seq (r_seq (rB T0_ok (q9 P)) (r_cond rfl (r_seq (rB T0_ok (q8 P)) r_ret) r_skip)) (r_seq (rB T0_ok (q7 P)) (r_seq (rB T0_ok (q6 P)) (r_seq (r_seq (rB T0_ok (q5 P)) (r_cond rfl (r_seq (rB T0_ok (q4 P)) r_ret) r_skip)) (r_seq (r_seq (rB T0_ok (q3 P)) (r_cond rfl (r_seq (rB T0_ok (q2 P)) r_ret) r_skip)) (r_seq (rB T0_ok (q1 P)) r_ret)))))))))))))))))))))))))
theorem ac (P : PT) (x0a : Int) (x0b : Value) (H : AHeap) (h : B34 P x0a x0b H) : AC Try.prog T0 7 [(Value.agg ⟨[(Value.int .i64 x0a), x0b]⟩)] H P :=
  r_fn T0_ok (c := code) (n := 96) Try.func7 body (by kernel_rfl) (main P) (En_mk (x0a, x0b, ()) (by kernel_rfl) ⟨by kernel_rfl, trivial⟩ h)

end F7
-- loop.example/g01329/laws.szGraph
namespace F12
noncomputable def ret (P : PT) : EP := retE T0 12 Try.f12 P
abbrev k0 : Sk := [(1,.i .i64)]
noncomputable def o1 := ob Try.f12 [.r,.r,.r,.l]
def B1 (P : PT) (x1 : Int) (H : AHeap) : Prop :=
  P (Value.int .i64 x1) H
theorem q1 (P : PT) : QB Try.prog T0 12 o1 (ret P) k0 (B1 P) := fun _ _ _  => by kernel_rfl
abbrev k1 : Sk := []
noncomputable def o2 := ob Try.f12 [.r,.r,.l,.r,.l,.l]
def B2 (P : PT) (H : AHeap) : Prop :=
  P (Value.int .i64 (-1)) H
theorem q2 (P : PT) : QB Try.prog T0 12 o2 (ret P) k1 (B2 P) := fun _ _  => by kernel_rfl
noncomputable def o3 := ob Try.f12 [.r,.r,.l,.l]
def B3 (P : PT) (x1 : Int) (H : AHeap) : Prop :=
  pif (decide ((x1 : Int) < 0)) (B2 P H) (B1 P x1 H)
theorem q3 (P : PT) : QB Try.prog T0 12 o3 (cnd 10 (En 12 k1 (B2 P)) (En 12 k0 (B1 P))) k0 (B3 P) := fun _ _ _  => by kernel_rfl
abbrev k2 : Sk := [(1,.i .i64),(2,.x)]
noncomputable def o4 := ob Try.f12 [.r,.l]
def B4 (P : PT) (x1 : Int) (x2 : Nat) (H : AHeap) : Prop :=
  ld1 H x2 1 (fun v1 => AC Try.prog T0 46 [v1, (Value.int .i64 x1)] H (fun v2 H3 => asI .i64 v2 (fun v4 => B3 P v4 H3)))
theorem q4 (P : PT) : QB Try.prog T0 12 o4 (En 12 k0 (B3 P)) k2 (B4 P) := fun _ _ _ _  => by kernel_rfl
abbrev k3 : Sk := [(0,.g [.i,.v]),(1,.i .i64)]
noncomputable def o5 := ob Try.f12 [.l]
def B5 (P : PT) (x0a : Int) (x0b : Value) (x1 : Int) (H : AHeap) : Prop :=
  newK H [(Value.int .i64 x0a), x0b] 24 (fun b1 H2 => B4 P x1 b1 H2)
theorem q5 (P : PT) : QB Try.prog T0 12 o5 (En 12 k2 (B4 P)) k3 (B5 P) := fun _ _ _ _ _  => by kernel_rfl
noncomputable def code : Code := (.seq (.region 0 ⟨o5⟩ false) (.seq (.region 1 ⟨o4⟩ false) (.seq (.seq (.region 2 ⟨o3⟩ false) (.cond (.tmp 10) (.seq (.region 3 ⟨o2⟩ false) .ret) .skip)) (.seq (.region 4 ⟨o1⟩ false) .ret))))
theorem body : Try.f12.body = some code := by kernel_rfl
theorem main (P : PT) : ∀ env H, (En 12 k3 (B5 P)) env H → AW Try.prog T0 code env H (mkQ (ret P) (fun _ _ _ => False) (ret P)) :=
  (r_seq (rB T0_ok (q5 P)) (r_seq (rB T0_ok (q4 P)) (r_seq (r_seq (rB T0_ok (q3 P)) (r_cond rfl (r_seq (rB T0_ok (q2 P)) r_ret) r_skip)) (r_seq (rB T0_ok (q1 P)) r_ret))))
theorem ac (P : PT) (x0a : Int) (x0b : Value) (x1 : Int) (H : AHeap) (h : B5 P x0a x0b x1 H) : AC Try.prog T0 12 [(Value.agg ⟨[(Value.int .i64 x0a), x0b]⟩), (Value.int .i64 x1)] H P :=
  r_fn T0_ok (c := code) (n := 12) Try.func12 body (by kernel_rfl) (main P) (En_mk (x0a, x0b, x1, ()) (by kernel_rfl) ⟨by kernel_rfl, by kernel_rfl, trivial⟩ h)

end F12
-- loop.example/g01329/laws.toGraph
namespace F14
noncomputable def ret (P : PT) : EP := retE T0 12 Try.f14 P
abbrev k0 : Sk := [(2,.x),(3,.x)]
noncomputable def o1 := ob Try.f14 [.r,.r,.r,.r,.l]
def B1 (P : PT) (x2 x3 : Nat) (H : AHeap) : Prop :=
  ldI .i64 H x3 0 (fun v1 => ld1 H x3 1 (fun v2 => stK H x2 0 [(Value.int .i64 v1), v2] (fun H3 => ldI .i64 H3 x2 0 (fun v4 => ld1 H3 x2 1 (fun v5 => P (Value.agg ⟨[(Value.int .i64 v4), v5]⟩) H3)))))
theorem q1 (P : PT) : QB Try.prog T0 12 o1 (ret P) k0 (B1 P) := fun _ _ _ _  => by kernel_rfl
abbrev k1 : Sk := [(1,.x),(2,.x),(3,.x)]
noncomputable def o2 := ob Try.f14 [.r,.r,.r,.l]
def B2 (P : PT) (x1 x2 x3 : Nat) (H : AHeap) : Prop :=
  ld1 H x1 1 (fun v1 => AC Try.prog T0 51 [v1] H (fun v2 H3 => pif (Value.oneCell' v2) (stK H3 x3 1 [v2] (fun H5 => B1 P x2 x3 H5)) False))
theorem q2 (P : PT) : QB Try.prog T0 12 o2 (En 12 k0 (B1 P)) k1 (B2 P) := fun _ _ _ _ _  => by kernel_rfl
noncomputable def o3 := ob Try.f14 [.r,.r,.l]
def B3 (P : PT) (x1 x2 x3 : Nat) (H : AHeap) : Prop :=
  ldI .i64 H x1 0 (fun v1 => stK H x3 0 [(Value.int .i64 v1)] (fun H2 => B2 P x1 x2 x3 H2))
theorem q3 (P : PT) : QB Try.prog T0 12 o3 (En 12 k1 (B2 P)) k1 (B3 P) := fun _ _ _ _ _  => by kernel_rfl
abbrev k2 : Sk := [(1,.x),(2,.x)]
noncomputable def o4 := ob Try.f14 [.r,.l]
def B4 (P : PT) (x1 x2 : Nat) (H : AHeap) : Prop :=
  newK H [(Value.int .i64 0), (Value.slice none 0 0)] 32 (fun b1 H2 => B3 P x1 x2 b1 H2)
theorem q4 (P : PT) : QB Try.prog T0 12 o4 (En 12 k1 (B3 P)) k2 (B4 P) := fun _ _ _ _  => by kernel_rfl
abbrev k3 : Sk := [(0,.g [.i,.v])]
noncomputable def o5 := ob Try.f14 [.l]
def B5 (P : PT) (x0a : Int) (x0b : Value) (H : AHeap) : Prop :=
  newK H [(Value.int .i64 x0a), x0b] 24 (fun b1 H2 => newK H2 [(Value.int .i64 0), (Value.slice none 0 0)] 32 (fun b3 H4 => B4 P b1 b3 H4))
theorem q5 (P : PT) : QB Try.prog T0 12 o5 (En 12 k2 (B4 P)) k3 (B5 P) := fun _ _ _ _  => by kernel_rfl
noncomputable def code : Code := (.seq (.region 0 ⟨o5⟩ false) (.seq (.region 1 ⟨o4⟩ false) (.seq (.region 2 ⟨o3⟩ false) (.seq (.region 3 ⟨o2⟩ false) (.seq (.region 4 ⟨o1⟩ false) .ret)))))
theorem body : Try.f14.body = some code := by kernel_rfl
theorem main (P : PT) : ∀ env H, (En 12 k3 (B5 P)) env H → AW Try.prog T0 code env H (mkQ (ret P) (fun _ _ _ => False) (ret P)) :=
  (r_seq (rB T0_ok (q5 P)) (r_seq (rB T0_ok (q4 P)) (r_seq (rB T0_ok (q3 P)) (r_seq (rB T0_ok (q2 P)) (r_seq (rB T0_ok (q1 P)) r_ret)))))
theorem ac (P : PT) (x0a : Int) (x0b : Value) (H : AHeap) (h : B5 P x0a x0b H) : AC Try.prog T0 14 [(Value.agg ⟨[(Value.int .i64 x0a), x0b]⟩)] H P :=
  r_fn T0_ok (c := code) (n := 12) Try.func14 body (by kernel_rfl) (main P) (En_mk (x0a, x0b, ()) (by kernel_rfl) ⟨by kernel_rfl, trivial⟩ h)

end F14
-- loop.example/g01329/laws.eqGraph
namespace F18
noncomputable def ret (P : PT) : EP := retE T0 16 Try.f18 P
abbrev k0 : Sk := []
noncomputable def o1 := ob Try.f18 [.r,.r,.r,.l]
def B1 (P : PT) (H : AHeap) : Prop :=
  P (Value.bool true) H
theorem q1 (P : PT) : QB Try.prog T0 16 o1 (ret P) k0 (B1 P) := fun _ _  => by kernel_rfl
noncomputable def o2 := ob Try.f18 [.r,.r,.l,.r,.l,.l]
def B2 (P : PT) (H : AHeap) : Prop :=
  P (Value.bool false) H
theorem q2 (P : PT) : QB Try.prog T0 16 o2 (ret P) k0 (B2 P) := fun _ _  => by kernel_rfl
abbrev k1 : Sk := [(2,.x),(3,.x)]
noncomputable def o3 := ob Try.f18 [.r,.r,.l,.l]
def B3 (P : PT) (x2 x3 : Nat) (H : AHeap) : Prop :=
  ld1 H x2 1 (fun v1 => ld1 H x3 1 (fun v2 => AC Try.prog T0 57 [v1, v2] H (fun v3 H4 => asB v3 (fun v5 => pif (!v5) (B2 P H4) (B1 P H4)))))
theorem q3 (P : PT) : QB Try.prog T0 16 o3 (cnd 15 (En 16 k0 (B2 P)) (En 16 k0 (B1 P))) k1 (B3 P) := fun _ _ _ _  => by kernel_rfl
noncomputable def o4 := ob Try.f18 [.r,.l,.r,.l,.l]
def B4 (P : PT) (H : AHeap) : Prop :=
  P (Value.bool false) H
theorem q4 (P : PT) : QB Try.prog T0 16 o4 (ret P) k0 (B4 P) := fun _ _  => by kernel_rfl
noncomputable def o5 := ob Try.f18 [.r,.l,.l]
def B5 (P : PT) (x2 x3 : Nat) (H : AHeap) : Prop :=
  ldI .i64 H x2 0 (fun v1 => ldI .i64 H x3 0 (fun v2 => pif ((v1 : Int) != v2) (B4 P H) (B3 P x2 x3 H)))
theorem q5 (P : PT) : QB Try.prog T0 16 o5 (cnd 9 (En 16 k0 (B4 P)) (En 16 k1 (B3 P))) k1 (B5 P) := fun _ _ _ _  => by kernel_rfl
abbrev k2 : Sk := [(0,.g [.i,.v]),(1,.g [.i,.v])]
noncomputable def o6 := ob Try.f18 [.l]
def B6 (P : PT) (x0a : Int) (x0b : Value) (x1a : Int) (x1b : Value) (H : AHeap) : Prop :=
  newK H [(Value.int .i64 x0a), x0b] 32 (fun b1 H2 => newK H2 [(Value.int .i64 x1a), x1b] 32 (fun b3 H4 => B5 P b1 b3 H4))
theorem q6 (P : PT) : QB Try.prog T0 16 o6 (En 16 k1 (B5 P)) k2 (B6 P) := fun _ _ _ _ _ _  => by kernel_rfl
noncomputable def code : Code := (.seq (.region 0 ⟨o6⟩ false) (.seq (.seq (.region 1 ⟨o5⟩ false) (.cond (.tmp 9) (.seq (.region 2 ⟨o4⟩ false) .ret) .skip)) (.seq (.seq (.region 3 ⟨o3⟩ false) (.cond (.tmp 15) (.seq (.region 4 ⟨o2⟩ false) .ret) .skip)) (.seq (.region 5 ⟨o1⟩ false) .ret))))
theorem body : Try.f18.body = some code := by kernel_rfl
theorem main (P : PT) : ∀ env H, (En 16 k2 (B6 P)) env H → AW Try.prog T0 code env H (mkQ (ret P) (fun _ _ _ => False) (ret P)) :=
  (r_seq (rB T0_ok (q6 P)) (r_seq (r_seq (rB T0_ok (q5 P)) (r_cond rfl (r_seq (rB T0_ok (q4 P)) r_ret) r_skip)) (r_seq (r_seq (rB T0_ok (q3 P)) (r_cond rfl (r_seq (rB T0_ok (q2 P)) r_ret) r_skip)) (r_seq (rB T0_ok (q1 P)) r_ret))))
theorem ac (P : PT) (x0a : Int) (x0b : Value) (x1a : Int) (x1b : Value) (H : AHeap) (h : B6 P x0a x0b x1a x1b H) : AC Try.prog T0 18 [(Value.agg ⟨[(Value.int .i64 x0a), x0b]⟩), (Value.agg ⟨[(Value.int .i64 x1a), x1b]⟩)] H P :=
  r_fn T0_ok (c := code) (n := 16) Try.func18 body (by kernel_rfl) (main P) (En_mk (x0a, x0b, x1a, x1b, ()) (by kernel_rfl) ⟨by kernel_rfl, by kernel_rfl, trivial⟩ h)

end F18
-- loop.example/g01329/laws.eqInt64S
namespace F19
noncomputable def ret (P : PT) : EP := retE T0 26 Try.f19 P
abbrev k0 : Sk := []
noncomputable def o1 := ob Try.f19 [.r,.r,.r,.l]
def B1 (P : PT) (H : AHeap) : Prop :=
  P (Value.bool true) H
theorem q1 (P : PT) : QB Try.prog T0 26 o1 (ret P) k0 (B1 P) := fun _ _  => by kernel_rfl
abbrev k1 : Sk := [(0,.v),(1,.v),(5,.i .i64)]
noncomputable def o3 := ob Try.f19 [.r,.r,.l,.r,.l,.l,.r,.r]
def B3 (P : PT) (N2 : NTy k1 Pr) (x0 x1 : Value) (x5 : Int) (H : AHeap) : Prop :=
  N2 x0 x1 (IntKind.i64.wrap (x5 + 1)) H
theorem q3 (P : PT) (N2 : NTy k1 Pr) : QB Try.prog T0 26 o3 (En 26 k1 N2) k1 (B3 P N2) := fun _ _ _ _ _  => by kernel_rfl
noncomputable def o4 := ob Try.f19 [.r,.r,.l,.r,.l,.l,.r,.l,.l,.r,.l,.l]
def B4 (P : PT) (N2 : NTy k1 Pr) (H : AHeap) : Prop :=
  P (Value.bool false) H
theorem q4 (P : PT) (N2 : NTy k1 Pr) : QB Try.prog T0 26 o4 (ret P) k0 (B4 P N2) := fun _ _  => by kernel_rfl
noncomputable def o5 := ob Try.f19 [.r,.r,.l,.r,.l,.l,.r,.l,.l,.l]
def B5 (P : PT) (N2 : NTy k1 Pr) (x0 x1 : Value) (x5 : Int) (H : AHeap) : Prop :=
  idxK x0 x5 1 (fun b1 o2 => ldI .i64 H b1 o2 (fun v3 => idxK x1 x5 1 (fun b4 o5 => ldI .i64 H b4 o5 (fun v6 => pif ((v3 : Int) != v6) (B4 P N2 H) (B3 P N2 x0 x1 x5 H)))))
theorem q5 (P : PT) (N2 : NTy k1 Pr) : QD Try.prog T0 26 o5 [(0, false), (1, false), (2, false), (3, false), (4, false), (5, false), (6, false), (7, false), (8, false)] (cnd 25 (En 26 k0 (B4 P N2)) (En 26 k1 (B3 P N2))) k1 (B5 P N2) := fun _ _ _ _ _  => by kernel_rfl
noncomputable def o6 := ob Try.f19 [.r,.r,.l,.r,.l,.l,.l,.l]
def B6 (P : PT) (N2 : NTy k1 Pr) (x0 x1 : Value) (x5 : Int) (H : AHeap) : Prop :=
  lenK x0 (fun n1 => pif (decide ((x5 : Int) < (n1 : Int))) (B5 P N2 x0 x1 x5 H) (B1 P H))
theorem q6 (P : PT) (N2 : NTy k1 Pr) : QB Try.prog T0 26 o6 (cnd 14 (En 26 k1 (B5 P N2)) (En 26 k0 (B1 P))) k1 (B6 P N2) := fun _ _ _ _ _  => by kernel_rfl
def L2 (P : PT) (x0 x1 : Value) (x5 : Int) (H : AHeap) : Prop :=
  ∃ (I : NTy k1 Pr) (μ : NTy k1 (AHeap → Nat)), I x0 x1 x5 H ∧ ∀ y0 y1 y5 G, I y0 y1 y5 G → B6 P (fun z0 z1 z5 G' => I z0 z1 z5 G' ∧ μ z0 z1 z5 G' < μ y0 y1 y5 G) y0 y1 y5 G
theorem l2 (P : PT) : LQ k1 (L2 P) (B6 P) := fun ⟨_,_,_,_⟩ _ ⟨I, μ, h0, hI⟩ => ⟨apT _ I, apT _ μ, h0, fun ⟨_,_,_,_⟩ _ h => hI _ _ _ _  h⟩
abbrev k2 : Sk := [(0,.v),(1,.v)]
noncomputable def o7 := ob Try.f19 [.r,.r,.l,.l]
def B7 (P : PT) (x0 x1 : Value) (H : AHeap) : Prop :=
  L2 P x0 x1 0 H
theorem q7 (P : PT) : QB Try.prog T0 26 o7 (En 26 k1 (L2 P)) k2 (B7 P) := fun _ _ _ _  => by kernel_rfl
noncomputable def o8 := ob Try.f19 [.r,.l,.r,.l,.l]
def B8 (P : PT) (H : AHeap) : Prop :=
  P (Value.bool false) H
theorem q8 (P : PT) : QB Try.prog T0 26 o8 (ret P) k0 (B8 P) := fun _ _  => by kernel_rfl
noncomputable def o9 := ob Try.f19 [.r,.l,.l]
def B9 (P : PT) (x0 x1 : Value) (H : AHeap) : Prop :=
  lenK x0 (fun n1 => lenK x1 (fun n2 => pif (((n1 : Int) : Int) != (n2 : Int)) (B8 P H) (B7 P x0 x1 H)))
theorem q9 (P : PT) : QB Try.prog T0 26 o9 (cnd 10 (En 26 k0 (B8 P)) (En 26 k2 (B7 P))) k2 (B9 P) := fun _ _ _ _  => by kernel_rfl
noncomputable def o10 := ob Try.f19 [.l]
def B10 (P : PT) (x0 x1 : Value) (H : AHeap) : Prop :=
  B9 P x0 x1 H
theorem q10 (P : PT) : QB Try.prog T0 26 o10 (En 26 k2 (B9 P)) k2 (B10 P) := fun _ _ _ _  => by kernel_rfl
noncomputable def code : Code := (.seq (.region 0 ⟨o10⟩ false) (.seq (.seq (.region 1 ⟨o9⟩ false) (.cond (.tmp 10) (.seq (.region 2 ⟨o8⟩ false) .ret) .skip)) (.seq (.seq (.region 3 ⟨o7⟩ false) (.block 0 (.loop (.seq (.seq (.region 4 ⟨o6⟩ false) (.cond (.tmp 14) .skip (.exit 0))) (.seq (.block 1 (.seq (.region 6 ⟨o5⟩ true) (.cond (.tmp 25) (.seq (.region 7 ⟨o4⟩ false) .ret) .skip))) (.region 5 ⟨o3⟩ false)))))) (.seq (.region 8 ⟨o1⟩ false) .ret))))
theorem body : Try.f19.body = some code := by kernel_rfl
theorem main (P : PT) : ∀ env H, (En 26 k2 (B10 P)) env H → AW Try.prog T0 code env H (mkQ (ret P) (fun _ _ _ => False) (ret P)) :=
  (r_seq (rB T0_ok (q10 P)) (r_seq (r_seq (rB T0_ok (q9 P)) (r_cond rfl (r_seq (rB T0_ok (q8 P)) r_ret) r_skip)) (r_seq (r_seq (rB T0_ok (q7 P)) (r_block (rL (l2 P) (fun N2 => (r_seq (r_seq (rB T0_ok (q6 P N2)) (r_cond rfl r_skip (r_exit (fun _ _ h => h)))) (r_seq (r_block (r_seq (rD T0_ok mixed [(0, false), (1, false), (2, false), (3, false), (4, false), (5, false), (6, false), (7, false), (8, false)] (by kernel_rfl) (q5 P N2)) (r_cond rfl (r_seq (rB T0_ok (q4 P N2)) r_ret) r_skip))) (rB T0_ok (q3 P N2)))))))) (r_seq (rB T0_ok (q1 P)) r_ret))))
theorem ac (P : PT) (x0 x1 : Value) (H : AHeap) (h : B10 P x0 x1 H) : AC Try.prog T0 19 [x0, x1] H P :=
  r_fn T0_ok (c := code) (n := 26) Try.func19 body (by kernel_rfl) (main P) (En_mk (x0, x1, ()) (by kernel_rfl) ⟨by kernel_rfl, by kernel_rfl, trivial⟩ h)

end F19
-- loop.example/g01329/laws.markGraph
namespace F20
noncomputable def ret (P : PT) : EP := retE T0 10 Try.f20 P
abbrev k0 : Sk := [(1,.i .i64)]
noncomputable def o1 := ob Try.f20 [.r,.r,.l]
def B1 (P : PT) (x1 : Int) (H : AHeap) : Prop :=
  P (Value.int .i64 x1) H
theorem q1 (P : PT) : QB Try.prog T0 10 o1 (ret P) k0 (B1 P) := fun _ _ _  => by kernel_rfl
abbrev k1 : Sk := [(1,.i .i64),(2,.x)]
noncomputable def o2 := ob Try.f20 [.r,.l]
def B2 (P : PT) (x1 : Int) (x2 : Nat) (H : AHeap) : Prop :=
  ld1 H x2 1 (fun v1 => AC Try.prog T0 58 [v1, (Value.int .i64 x1)] H (fun v2 H3 => asI .i64 v2 (fun v4 => B1 P v4 H3)))
theorem q2 (P : PT) : QB Try.prog T0 10 o2 (En 10 k0 (B1 P)) k1 (B2 P) := fun _ _ _ _  => by kernel_rfl
abbrev k2 : Sk := [(0,.g [.i,.v]),(1,.i .i64)]
noncomputable def o3 := ob Try.f20 [.l]
def B3 (P : PT) (x0a : Int) (x0b : Value) (x1 : Int) (H : AHeap) : Prop :=
  newK H [(Value.int .i64 x0a), x0b] 32 (fun b1 H2 => B2 P x1 b1 H2)
theorem q3 (P : PT) : QB Try.prog T0 10 o3 (En 10 k1 (B2 P)) k2 (B3 P) := fun _ _ _ _ _  => by kernel_rfl
noncomputable def code : Code := (.seq (.region 0 ⟨o3⟩ false) (.seq (.region 1 ⟨o2⟩ false) (.seq (.region 2 ⟨o1⟩ false) .ret)))
theorem body : Try.f20.body = some code := by kernel_rfl
theorem main (P : PT) : ∀ env H, (En 10 k2 (B3 P)) env H → AW Try.prog T0 code env H (mkQ (ret P) (fun _ _ _ => False) (ret P)) :=
  (r_seq (rB T0_ok (q3 P)) (r_seq (rB T0_ok (q2 P)) (r_seq (rB T0_ok (q1 P)) r_ret)))
theorem ac (P : PT) (x0a : Int) (x0b : Value) (x1 : Int) (H : AHeap) (h : B3 P x0a x0b x1 H) : AC Try.prog T0 20 [(Value.agg ⟨[(Value.int .i64 x0a), x0b]⟩), (Value.int .i64 x1)] H P :=
  r_fn T0_ok (c := code) (n := 10) Try.func20 body (by kernel_rfl) (main P) (En_mk (x0a, x0b, x1, ()) (by kernel_rfl) ⟨by kernel_rfl, by kernel_rfl, trivial⟩ h)

end F20
-- loop.example/g01329/laws.markInt64S
namespace F21
noncomputable def ret (P : PT) : EP := retE T0 19 Try.f21 P
abbrev k0 : Sk := [(1,.i .i64)]
noncomputable def o1 := ob Try.f21 [.r,.r,.l]
def B1 (P : PT) (x1 : Int) (H : AHeap) : Prop :=
  P (Value.int .i64 x1) H
theorem q1 (P : PT) : QB Try.prog T0 19 o1 (ret P) k0 (B1 P) := fun _ _ _  => by kernel_rfl
abbrev k1 : Sk := [(0,.v),(1,.i .i64),(5,.i .i64)]
noncomputable def o3 := ob Try.f21 [.r,.l,.r,.l,.l,.r,.r]
def B3 (P : PT) (N2 : NTy k1 Pr) (x0 : Value) (x1 x5 : Int) (H : AHeap) : Prop :=
  N2 x0 x1 (IntKind.i64.wrap (x5 + 1)) H
theorem q3 (P : PT) (N2 : NTy k1 Pr) : QB Try.prog T0 19 o3 (En 19 k1 N2) k1 (B3 P N2) := fun _ _ _ _ _  => by kernel_rfl
noncomputable def o4 := ob Try.f21 [.r,.l,.r,.l,.l,.r,.l,.l,.r]
def B4 (P : PT) (N2 : NTy k1 Pr) (x0 : Value) (x1 x5 : Int) (H : AHeap) : Prop :=
  B3 P N2 x0 (IntKind.i64.wrap (x1 + 1)) x5 H
theorem q4 (P : PT) (N2 : NTy k1 Pr) : QB Try.prog T0 19 o4 (En 19 k1 (B3 P N2)) k1 (B4 P N2) := fun _ _ _ _ _  => by kernel_rfl
noncomputable def o5 := ob Try.f21 [.r,.l,.r,.l,.l,.r,.l,.l,.l]
def B5 (P : PT) (N2 : NTy k1 Pr) (x0 : Value) (x1 x5 : Int) (H : AHeap) : Prop :=
  idxK x0 x5 1 (fun b1 o2 => stK H b1 o2 [(Value.int .i64 x1)] (fun H3 => B4 P N2 x0 x1 x5 H3))
theorem q5 (P : PT) (N2 : NTy k1 Pr) : QB Try.prog T0 19 o5 (En 19 k1 (B4 P N2)) k1 (B5 P N2) := fun _ _ _ _ _  => by kernel_rfl
noncomputable def o6 := ob Try.f21 [.r,.l,.r,.l,.l,.l,.l]
def B6 (P : PT) (N2 : NTy k1 Pr) (x0 : Value) (x1 x5 : Int) (H : AHeap) : Prop :=
  lenK x0 (fun n1 => pif (decide ((x5 : Int) < (n1 : Int))) (B5 P N2 x0 x1 x5 H) (B1 P x1 H))
theorem q6 (P : PT) (N2 : NTy k1 Pr) : QB Try.prog T0 19 o6 (cnd 9 (En 19 k1 (B5 P N2)) (En 19 k0 (B1 P))) k1 (B6 P N2) := fun _ _ _ _ _  => by kernel_rfl
def L2 (P : PT) (x0 : Value) (x1 x5 : Int) (H : AHeap) : Prop :=
  ∃ (I : NTy k1 Pr) (μ : NTy k1 (AHeap → Nat)), I x0 x1 x5 H ∧ ∀ y0 y1 y5 G, I y0 y1 y5 G → B6 P (fun z0 z1 z5 G' => I z0 z1 z5 G' ∧ μ z0 z1 z5 G' < μ y0 y1 y5 G) y0 y1 y5 G
theorem l2 (P : PT) : LQ k1 (L2 P) (B6 P) := fun ⟨_,_,_,_⟩ _ ⟨I, μ, h0, hI⟩ => ⟨apT _ I, apT _ μ, h0, fun ⟨_,_,_,_⟩ _ h => hI _ _ _ _  h⟩
abbrev k2 : Sk := [(0,.v),(1,.i .i64)]
noncomputable def o7 := ob Try.f21 [.r,.l,.l]
def B7 (P : PT) (x0 : Value) (x1 : Int) (H : AHeap) : Prop :=
  L2 P x0 x1 0 H
theorem q7 (P : PT) : QB Try.prog T0 19 o7 (En 19 k1 (L2 P)) k2 (B7 P) := fun _ _ _ _  => by kernel_rfl
noncomputable def o8 := ob Try.f21 [.l]
def B8 (P : PT) (x0 : Value) (x1 : Int) (H : AHeap) : Prop :=
  B7 P x0 x1 H
theorem q8 (P : PT) : QB Try.prog T0 19 o8 (En 19 k2 (B7 P)) k2 (B8 P) := fun _ _ _ _  => by kernel_rfl
noncomputable def code : Code := (.seq (.region 0 ⟨o8⟩ false) (.seq (.seq (.region 1 ⟨o7⟩ false) (.block 0 (.loop (.seq (.seq (.region 2 ⟨o6⟩ false) (.cond (.tmp 9) .skip (.exit 0))) (.seq (.block 1 (.seq (.region 4 ⟨o5⟩ false) (.region 5 ⟨o4⟩ false))) (.region 3 ⟨o3⟩ false)))))) (.seq (.region 6 ⟨o1⟩ false) .ret)))
theorem body : Try.f21.body = some code := by kernel_rfl
theorem main (P : PT) : ∀ env H, (En 19 k2 (B8 P)) env H → AW Try.prog T0 code env H (mkQ (ret P) (fun _ _ _ => False) (ret P)) :=
  (r_seq (rB T0_ok (q8 P)) (r_seq (r_seq (rB T0_ok (q7 P)) (r_block (rL (l2 P) (fun N2 => (r_seq (r_seq (rB T0_ok (q6 P N2)) (r_cond rfl r_skip (r_exit (fun _ _ h => h)))) (r_seq (r_block (r_seq (rB T0_ok (q5 P N2)) (rB T0_ok (q4 P N2)))) (rB T0_ok (q3 P N2)))))))) (r_seq (rB T0_ok (q1 P)) r_ret)))
theorem ac (P : PT) (x0 : Value) (x1 : Int) (H : AHeap) (h : B8 P x0 x1 H) : AC Try.prog T0 21 [x0, (Value.int .i64 x1)] H P :=
  r_fn T0_ok (c := code) (n := 19) Try.func21 body (by kernel_rfl) (main P) (En_mk (x0, x1, ()) (by kernel_rfl) ⟨by kernel_rfl, by kernel_rfl, trivial⟩ h)

end F21
-- loop.example/g01329/spec.ResistanceOf
namespace F26
noncomputable def ret (P : PT) : EP := retE T0 15 Try.f26 P
abbrev k0 : Sk := [(1,.x)]
noncomputable def o1 := ob Try.f26 [.r,.r,.l]
def B1 (P : PT) (x1 : Nat) (H : AHeap) : Prop :=
  ldI .i64 H x1 0 (fun v1 => ld1 H x1 1 (fun v2 => AC Try.prog T0 64 [(Value.agg ⟨[(Value.int .i64 v1), v2]⟩)] H (fun v3 H4 => lenK v3 (fun n6 => P (Value.tuple ⟨[(Value.int .i64 (n6 : Int)), (Value.int .i64 0)]⟩) H4))))
theorem q1 (P : PT) : QB Try.prog T0 15 o1 (ret P) k0 (B1 P) := fun _ _ _  => by kernel_rfl
abbrev k1 : Sk := []
noncomputable def o2 := ob Try.f26 [.r,.l,.l,.r,.l,.l]
def B2 (P : PT) (H : AHeap) : Prop :=
  P (Value.tuple ⟨[(Value.int .i64 0), (Value.int .i64 1)]⟩) H
theorem q2 (P : PT) : QB Try.prog T0 15 o2 (ret P) k1 (B2 P) := fun _ _  => by kernel_rfl
noncomputable def o3 := ob Try.f26 [.r,.l,.l,.r,.r,.r,.l,.l]
def B3 (P : PT) (H : AHeap) : Prop :=
  P (Value.tuple ⟨[(Value.int .i64 0), (Value.int .i64 3)]⟩) H
theorem q3 (P : PT) : QB Try.prog T0 15 o3 (ret P) k1 (B3 P) := fun _ _  => by kernel_rfl
noncomputable def o4 := ob Try.f26 [.r,.l,.l,.r,.r,.l]
def B4 (P : PT) (x1 : Nat) (H : AHeap) : Prop :=
  ldI .i64 H x1 0 (fun v1 => pif (decide ((v1 : Int) > 12)) (B3 P H) (B1 P x1 H))
theorem q4 (P : PT) : QB Try.prog T0 15 o4 (cnd 8 (En 15 k1 (B3 P)) (En 15 k0 (B1 P))) k0 (B4 P) := fun _ _ _  => by kernel_rfl
noncomputable def o5 := ob Try.f26 [.r,.l,.l,.l]
def B5 (P : PT) (x1 : Nat) (H : AHeap) : Prop :=
  ldI .i64 H x1 0 (fun v1 => ld1 H x1 1 (fun v2 => AC Try.prog T0 47 [(Value.agg ⟨[(Value.int .i64 v1), v2]⟩)] H (fun v3 H4 => asB v3 (fun v5 => pif (!v5) (B2 P H4) (B4 P x1 H4)))))
theorem q5 (P : PT) : QB Try.prog T0 15 o5 (cnd 4 (En 15 k1 (B2 P)) (En 15 k0 (B4 P))) k0 (B5 P) := fun _ _ _  => by kernel_rfl
abbrev k2 : Sk := [(0,.g [.i,.v])]
noncomputable def o6 := ob Try.f26 [.l]
def B6 (P : PT) (x0a : Int) (x0b : Value) (H : AHeap) : Prop :=
  newK H [(Value.int .i64 x0a), x0b] 32 (fun b1 H2 => B5 P b1 H2)
theorem q6 (P : PT) : QB Try.prog T0 15 o6 (En 15 k0 (B5 P)) k2 (B6 P) := fun _ _ _ _  => by kernel_rfl
noncomputable def code : Code := (.seq (.region 0 ⟨o6⟩ false) (.seq (.block 0 (.seq (.region 1 ⟨o5⟩ false) (.cond (.tmp 4) (.seq (.region 2 ⟨o2⟩ false) .ret) (.seq (.region 3 ⟨o4⟩ false) (.cond (.tmp 8) (.seq (.region 4 ⟨o3⟩ false) .ret) .skip))))) (.seq (.region 5 ⟨o1⟩ false) .ret)))
theorem body : Try.f26.body = some code := by kernel_rfl
theorem main (P : PT) : ∀ env H, (En 15 k2 (B6 P)) env H → AW Try.prog T0 code env H (mkQ (ret P) (fun _ _ _ => False) (ret P)) :=
  (r_seq (rB T0_ok (q6 P)) (r_seq (r_block (r_seq (rB T0_ok (q5 P)) (r_cond rfl (r_seq (rB T0_ok (q2 P)) r_ret) (r_seq (rB T0_ok (q4 P)) (r_cond rfl (r_seq (rB T0_ok (q3 P)) r_ret) r_skip))))) (r_seq (rB T0_ok (q1 P)) r_ret)))
theorem ac (P : PT) (x0a : Int) (x0b : Value) (H : AHeap) (h : B6 P x0a x0b H) : AC Try.prog T0 26 [(Value.agg ⟨[(Value.int .i64 x0a), x0b]⟩)] H P :=
  r_fn T0_ok (c := code) (n := 15) Try.func26 body (by kernel_rfl) (main P) (En_mk (x0a, x0b, ()) (by kernel_rfl) ⟨by kernel_rfl, trivial⟩ h)

end F26
-- loop.example/g01329/impl.ResistanceOf
namespace F27
noncomputable def ret (P : PT) : EP := retE T0 13 Try.f27 P
abbrev k0 : Sk := [(1,.x)]
noncomputable def o1 := ob Try.f27 [.r,.r,.l]
def B1 (P : PT) (x1 : Nat) (H : AHeap) : Prop :=
  ldI .i64 H x1 0 (fun v1 => ld1 H x1 1 (fun v2 => AC Try.prog T0 66 [(Value.agg ⟨[(Value.int .i64 v1), v2]⟩)] H (fun v3 H4 => asI .u64 v3 (fun v5 => AC Try.prog T0 67 [(Value.int .u64 v5)] H4 (fun v6 H7 => asI .i64 v6 (fun v8 => P (Value.tuple ⟨[(Value.int .i64 v8), (Value.int .i64 0)]⟩) H7))))))
theorem q1 (P : PT) : QB Try.prog T0 13 o1 (ret P) k0 (B1 P) := fun _ _ _  => by kernel_rfl
abbrev k1 : Sk := [(4,.i .i64)]
noncomputable def o2 := ob Try.f27 [.r,.l,.r,.r,.l,.l]
def B2 (P : PT) (x4 : Int) (H : AHeap) : Prop :=
  P (Value.tuple ⟨[(Value.int .i64 0), (Value.int .i64 x4)]⟩) H
theorem q2 (P : PT) : QB Try.prog T0 13 o2 (ret P) k1 (B2 P) := fun _ _ _  => by kernel_rfl
abbrev k2 : Sk := [(1,.x),(4,.i .i64)]
noncomputable def o3 := ob Try.f27 [.r,.l,.r,.l]
def B3 (P : PT) (x1 : Nat) (x4 : Int) (H : AHeap) : Prop :=
  pif ((x4 : Int) != 0) (B2 P x4 H) (B1 P x1 H)
theorem q3 (P : PT) : QB Try.prog T0 13 o3 (cnd 8 (En 13 k1 (B2 P)) (En 13 k0 (B1 P))) k2 (B3 P) := fun _ _ _ _  => by kernel_rfl
noncomputable def o4 := ob Try.f27 [.r,.l,.l]
def B4 (P : PT) (x1 : Nat) (H : AHeap) : Prop :=
  ldI .i64 H x1 0 (fun v1 => ld1 H x1 1 (fun v2 => AC Try.prog T0 65 [(Value.agg ⟨[(Value.int .i64 v1), v2]⟩), (Value.bool true), (Value.int .i64 12)] H (fun v3 H4 => asI .i64 v3 (fun v5 => B3 P x1 v5 H4))))
theorem q4 (P : PT) : QB Try.prog T0 13 o4 (En 13 k2 (B3 P)) k0 (B4 P) := fun _ _ _  => by kernel_rfl
abbrev k3 : Sk := [(0,.g [.i,.v])]
noncomputable def o5 := ob Try.f27 [.l]
def B5 (P : PT) (x0a : Int) (x0b : Value) (H : AHeap) : Prop :=
  newK H [(Value.int .i64 x0a), x0b] 32 (fun b1 H2 => B4 P b1 H2)
theorem q5 (P : PT) : QB Try.prog T0 13 o5 (En 13 k0 (B4 P)) k3 (B5 P) := fun _ _ _ _  => by kernel_rfl
noncomputable def code : Code := (.seq (.region 0 ⟨o5⟩ false) (.seq (.seq (.region 1 ⟨o4⟩ false) (.seq (.region 2 ⟨o3⟩ false) (.cond (.tmp 8) (.seq (.region 3 ⟨o2⟩ false) .ret) .skip))) (.seq (.region 4 ⟨o1⟩ false) .ret)))
theorem body : Try.f27.body = some code := by kernel_rfl
theorem main (P : PT) : ∀ env H, (En 13 k3 (B5 P)) env H → AW Try.prog T0 code env H (mkQ (ret P) (fun _ _ _ => False) (ret P)) :=
  (r_seq (rB T0_ok (q5 P)) (r_seq (r_seq (rB T0_ok (q4 P)) (r_seq (rB T0_ok (q3 P)) (r_cond rfl (r_seq (rB T0_ok (q2 P)) r_ret) r_skip))) (r_seq (rB T0_ok (q1 P)) r_ret)))
theorem ac (P : PT) (x0a : Int) (x0b : Value) (H : AHeap) (h : B5 P x0a x0b H) : AC Try.prog T0 27 [(Value.agg ⟨[(Value.int .i64 x0a), x0b]⟩)] H P :=
  r_fn T0_ok (c := code) (n := 13) Try.func27 body (by kernel_rfl) (main P) (En_mk (x0a, x0b, ()) (by kernel_rfl) ⟨by kernel_rfl, trivial⟩ h)

end F27
-- loop.example/g01329/spec.WeakSet
namespace F32
noncomputable def ret (P : PT) : EP := retE T0 14 Try.f32 P
abbrev k0 : Sk := [(1,.x)]
noncomputable def o1 := ob Try.f32 [.r,.r,.l]
def B1 (P : PT) (x1 : Nat) (H : AHeap) : Prop :=
  ldI .i64 H x1 0 (fun v1 => ld1 H x1 1 (fun v2 => AC Try.prog T0 64 [(Value.agg ⟨[(Value.int .i64 v1), v2]⟩)] H (fun v3 H4 => P (Value.tuple ⟨[v3, (Value.int .i64 0)]⟩) H4)))
theorem q1 (P : PT) : QB Try.prog T0 14 o1 (ret P) k0 (B1 P) := fun _ _ _  => by kernel_rfl
abbrev k1 : Sk := []
noncomputable def o2 := ob Try.f32 [.r,.l,.l,.r,.l,.l]
def B2 (P : PT) (H : AHeap) : Prop :=
  P (Value.tuple ⟨[(Value.slice none 0 0), (Value.int .i64 1)]⟩) H
theorem q2 (P : PT) : QB Try.prog T0 14 o2 (ret P) k1 (B2 P) := fun _ _  => by kernel_rfl
noncomputable def o3 := ob Try.f32 [.r,.l,.l,.r,.r,.r,.l,.l]
def B3 (P : PT) (H : AHeap) : Prop :=
  P (Value.tuple ⟨[(Value.slice none 0 0), (Value.int .i64 3)]⟩) H
theorem q3 (P : PT) : QB Try.prog T0 14 o3 (ret P) k1 (B3 P) := fun _ _  => by kernel_rfl
noncomputable def o4 := ob Try.f32 [.r,.l,.l,.r,.r,.l]
def B4 (P : PT) (x1 : Nat) (H : AHeap) : Prop :=
  ldI .i64 H x1 0 (fun v1 => pif (decide ((v1 : Int) > 12)) (B3 P H) (B1 P x1 H))
theorem q4 (P : PT) : QB Try.prog T0 14 o4 (cnd 8 (En 14 k1 (B3 P)) (En 14 k0 (B1 P))) k0 (B4 P) := fun _ _ _  => by kernel_rfl
noncomputable def o5 := ob Try.f32 [.r,.l,.l,.l]
def B5 (P : PT) (x1 : Nat) (H : AHeap) : Prop :=
  ldI .i64 H x1 0 (fun v1 => ld1 H x1 1 (fun v2 => AC Try.prog T0 47 [(Value.agg ⟨[(Value.int .i64 v1), v2]⟩)] H (fun v3 H4 => asB v3 (fun v5 => pif (!v5) (B2 P H4) (B4 P x1 H4)))))
theorem q5 (P : PT) : QB Try.prog T0 14 o5 (cnd 4 (En 14 k1 (B2 P)) (En 14 k0 (B4 P))) k0 (B5 P) := fun _ _ _  => by kernel_rfl
abbrev k2 : Sk := [(0,.g [.i,.v])]
noncomputable def o6 := ob Try.f32 [.l]
def B6 (P : PT) (x0a : Int) (x0b : Value) (H : AHeap) : Prop :=
  newK H [(Value.int .i64 x0a), x0b] 32 (fun b1 H2 => B5 P b1 H2)
theorem q6 (P : PT) : QB Try.prog T0 14 o6 (En 14 k0 (B5 P)) k2 (B6 P) := fun _ _ _ _  => by kernel_rfl
noncomputable def code : Code := (.seq (.region 0 ⟨o6⟩ false) (.seq (.block 0 (.seq (.region 1 ⟨o5⟩ false) (.cond (.tmp 4) (.seq (.region 2 ⟨o2⟩ false) .ret) (.seq (.region 3 ⟨o4⟩ false) (.cond (.tmp 8) (.seq (.region 4 ⟨o3⟩ false) .ret) .skip))))) (.seq (.region 5 ⟨o1⟩ false) .ret)))
theorem body : Try.f32.body = some code := by kernel_rfl
theorem main (P : PT) : ∀ env H, (En 14 k2 (B6 P)) env H → AW Try.prog T0 code env H (mkQ (ret P) (fun _ _ _ => False) (ret P)) :=
  (r_seq (rB T0_ok (q6 P)) (r_seq (r_block (r_seq (rB T0_ok (q5 P)) (r_cond rfl (r_seq (rB T0_ok (q2 P)) r_ret) (r_seq (rB T0_ok (q4 P)) (r_cond rfl (r_seq (rB T0_ok (q3 P)) r_ret) r_skip))))) (r_seq (rB T0_ok (q1 P)) r_ret)))
theorem ac (P : PT) (x0a : Int) (x0b : Value) (H : AHeap) (h : B6 P x0a x0b H) : AC Try.prog T0 32 [(Value.agg ⟨[(Value.int .i64 x0a), x0b]⟩)] H P :=
  r_fn T0_ok (c := code) (n := 14) Try.func32 body (by kernel_rfl) (main P) (En_mk (x0a, x0b, ()) (by kernel_rfl) ⟨by kernel_rfl, trivial⟩ h)

end F32
-- loop.example/g01329/impl.WeakSet
namespace F33
noncomputable def ret (P : PT) : EP := retE T0 13 Try.f33 P
abbrev k0 : Sk := [(1,.x)]
noncomputable def o1 := ob Try.f33 [.r,.r,.l]
def B1 (P : PT) (x1 : Nat) (H : AHeap) : Prop :=
  ldI .i64 H x1 0 (fun v1 => ld1 H x1 1 (fun v2 => AC Try.prog T0 66 [(Value.agg ⟨[(Value.int .i64 v1), v2]⟩)] H (fun v3 H4 => asI .u64 v3 (fun v5 => AC Try.prog T0 73 [(Value.int .u64 v5)] H4 (fun v6 H7 => P (Value.tuple ⟨[v6, (Value.int .i64 0)]⟩) H7)))))
theorem q1 (P : PT) : QB Try.prog T0 13 o1 (ret P) k0 (B1 P) := fun _ _ _  => by kernel_rfl
abbrev k1 : Sk := [(4,.i .i64)]
noncomputable def o2 := ob Try.f33 [.r,.l,.r,.r,.l,.l]
def B2 (P : PT) (x4 : Int) (H : AHeap) : Prop :=
  P (Value.tuple ⟨[(Value.slice none 0 0), (Value.int .i64 x4)]⟩) H
theorem q2 (P : PT) : QB Try.prog T0 13 o2 (ret P) k1 (B2 P) := fun _ _ _  => by kernel_rfl
abbrev k2 : Sk := [(1,.x),(4,.i .i64)]
noncomputable def o3 := ob Try.f33 [.r,.l,.r,.l]
def B3 (P : PT) (x1 : Nat) (x4 : Int) (H : AHeap) : Prop :=
  pif ((x4 : Int) != 0) (B2 P x4 H) (B1 P x1 H)
theorem q3 (P : PT) : QB Try.prog T0 13 o3 (cnd 8 (En 13 k1 (B2 P)) (En 13 k0 (B1 P))) k2 (B3 P) := fun _ _ _ _  => by kernel_rfl
noncomputable def o4 := ob Try.f33 [.r,.l,.l]
def B4 (P : PT) (x1 : Nat) (H : AHeap) : Prop :=
  ldI .i64 H x1 0 (fun v1 => ld1 H x1 1 (fun v2 => AC Try.prog T0 65 [(Value.agg ⟨[(Value.int .i64 v1), v2]⟩), (Value.bool true), (Value.int .i64 12)] H (fun v3 H4 => asI .i64 v3 (fun v5 => B3 P x1 v5 H4))))
theorem q4 (P : PT) : QB Try.prog T0 13 o4 (En 13 k2 (B3 P)) k0 (B4 P) := fun _ _ _  => by kernel_rfl
abbrev k3 : Sk := [(0,.g [.i,.v])]
noncomputable def o5 := ob Try.f33 [.l]
def B5 (P : PT) (x0a : Int) (x0b : Value) (H : AHeap) : Prop :=
  newK H [(Value.int .i64 x0a), x0b] 32 (fun b1 H2 => B4 P b1 H2)
theorem q5 (P : PT) : QB Try.prog T0 13 o5 (En 13 k0 (B4 P)) k3 (B5 P) := fun _ _ _ _  => by kernel_rfl
noncomputable def code : Code := (.seq (.region 0 ⟨o5⟩ false) (.seq (.seq (.region 1 ⟨o4⟩ false) (.seq (.region 2 ⟨o3⟩ false) (.cond (.tmp 8) (.seq (.region 3 ⟨o2⟩ false) .ret) .skip))) (.seq (.region 4 ⟨o1⟩ false) .ret)))
theorem body : Try.f33.body = some code := by kernel_rfl
theorem main (P : PT) : ∀ env H, (En 13 k3 (B5 P)) env H → AW Try.prog T0 code env H (mkQ (ret P) (fun _ _ _ => False) (ret P)) :=
  (r_seq (rB T0_ok (q5 P)) (r_seq (r_seq (rB T0_ok (q4 P)) (r_seq (rB T0_ok (q3 P)) (r_cond rfl (r_seq (rB T0_ok (q2 P)) r_ret) r_skip))) (r_seq (rB T0_ok (q1 P)) r_ret)))
theorem ac (P : PT) (x0a : Int) (x0b : Value) (H : AHeap) (h : B5 P x0a x0b H) : AC Try.prog T0 33 [(Value.agg ⟨[(Value.int .i64 x0a), x0b]⟩)] H P :=
  r_fn T0_ok (c := code) (n := 13) Try.func33 body (by kernel_rfl) (main P) (En_mk (x0a, x0b, ()) (by kernel_rfl) ⟨by kernel_rfl, trivial⟩ h)

end F33
-- loop.example/g01329/laws.heldInt64S
namespace F34
noncomputable def ret (P : PT) : EP := retE T0 21 Try.f34 P
abbrev k0 : Sk := [(1,.i .i64)]
noncomputable def o1 := ob Try.f34 [.r,.r,.l]
def B1 (P : PT) (x1 : Int) (H : AHeap) : Prop :=
  P (Value.int .i64 x1) H
theorem q1 (P : PT) : QB Try.prog T0 21 o1 (ret P) k0 (B1 P) := fun _ _ _  => by kernel_rfl
abbrev k1 : Sk := [(0,.v),(1,.i .i64),(5,.i .i64)]
noncomputable def o3 := ob Try.f34 [.r,.l,.r,.l,.l,.r,.r]
def B3 (P : PT) (N2 : NTy k1 Pr) (x0 : Value) (x1 x5 : Int) (H : AHeap) : Prop :=
  N2 x0 x1 (IntKind.i64.wrap (x5 + 1)) H
theorem q3 (P : PT) (N2 : NTy k1 Pr) : QB Try.prog T0 21 o3 (En 21 k1 N2) k1 (B3 P N2) := fun _ _ _ _ _  => by kernel_rfl
noncomputable def o4 := ob Try.f34 [.r,.l,.r,.l,.l,.r,.l,.l,.r]
def B4 (P : PT) (N2 : NTy k1 Pr) (x0 : Value) (x1 x5 : Int) (H : AHeap) : Prop :=
  B3 P N2 x0 (IntKind.i64.wrap (x1 + 1)) x5 H
theorem q4 (P : PT) (N2 : NTy k1 Pr) : QB Try.prog T0 21 o4 (En 21 k1 (B3 P N2)) k1 (B4 P N2) := fun _ _ _ _ _  => by kernel_rfl
abbrev k2 : Sk := []
noncomputable def o5 := ob Try.f34 [.r,.l,.r,.l,.l,.r,.l,.l,.l,.r,.l,.l]
def B5 (P : PT) (N2 : NTy k1 Pr) (H : AHeap) : Prop :=
  P (Value.int .i64 (-1)) H
theorem q5 (P : PT) (N2 : NTy k1 Pr) : QB Try.prog T0 21 o5 (ret P) k2 (B5 P N2) := fun _ _  => by kernel_rfl
noncomputable def o6 := ob Try.f34 [.r,.l,.r,.l,.l,.r,.l,.l,.l,.l]
def B6 (P : PT) (N2 : NTy k1 Pr) (x0 : Value) (x1 x5 : Int) (H : AHeap) : Prop :=
  idxK x0 x5 1 (fun b1 o2 => ldI .i64 H b1 o2 (fun v3 => pif ((v3 : Int) != x1) (B5 P N2 H) (B4 P N2 x0 x1 x5 H)))
theorem q6 (P : PT) (N2 : NTy k1 Pr) : QB Try.prog T0 21 o6 (cnd 17 (En 21 k2 (B5 P N2)) (En 21 k1 (B4 P N2))) k1 (B6 P N2) := fun _ _ _ _ _  => by kernel_rfl
noncomputable def o7 := ob Try.f34 [.r,.l,.r,.l,.l,.l,.l]
def B7 (P : PT) (N2 : NTy k1 Pr) (x0 : Value) (x1 x5 : Int) (H : AHeap) : Prop :=
  lenK x0 (fun n1 => pif (decide ((x5 : Int) < (n1 : Int))) (B6 P N2 x0 x1 x5 H) (B1 P x1 H))
theorem q7 (P : PT) (N2 : NTy k1 Pr) : QB Try.prog T0 21 o7 (cnd 9 (En 21 k1 (B6 P N2)) (En 21 k0 (B1 P))) k1 (B7 P N2) := fun _ _ _ _ _  => by kernel_rfl
def L2 (P : PT) (x0 : Value) (x1 x5 : Int) (H : AHeap) : Prop :=
  ∃ (I : NTy k1 Pr) (μ : NTy k1 (AHeap → Nat)), I x0 x1 x5 H ∧ ∀ y0 y1 y5 G, I y0 y1 y5 G → B7 P (fun z0 z1 z5 G' => I z0 z1 z5 G' ∧ μ z0 z1 z5 G' < μ y0 y1 y5 G) y0 y1 y5 G
theorem l2 (P : PT) : LQ k1 (L2 P) (B7 P) := fun ⟨_,_,_,_⟩ _ ⟨I, μ, h0, hI⟩ => ⟨apT _ I, apT _ μ, h0, fun ⟨_,_,_,_⟩ _ h => hI _ _ _ _  h⟩
abbrev k3 : Sk := [(0,.v),(1,.i .i64)]
noncomputable def o8 := ob Try.f34 [.r,.l,.l]
def B8 (P : PT) (x0 : Value) (x1 : Int) (H : AHeap) : Prop :=
  L2 P x0 x1 0 H
theorem q8 (P : PT) : QB Try.prog T0 21 o8 (En 21 k1 (L2 P)) k3 (B8 P) := fun _ _ _ _  => by kernel_rfl
noncomputable def o9 := ob Try.f34 [.l]
def B9 (P : PT) (x0 : Value) (x1 : Int) (H : AHeap) : Prop :=
  B8 P x0 x1 H
theorem q9 (P : PT) : QB Try.prog T0 21 o9 (En 21 k3 (B8 P)) k3 (B9 P) := fun _ _ _ _  => by kernel_rfl
noncomputable def code : Code := (.seq (.region 0 ⟨o9⟩ false) (.seq (.seq (.region 1 ⟨o8⟩ false) (.block 0 (.loop (.seq (.seq (.region 2 ⟨o7⟩ false) (.cond (.tmp 9) .skip (.exit 0))) (.seq (.block 1 (.seq (.seq (.region 4 ⟨o6⟩ false) (.cond (.tmp 17) (.seq (.region 5 ⟨o5⟩ false) .ret) .skip)) (.region 6 ⟨o4⟩ false))) (.region 3 ⟨o3⟩ false)))))) (.seq (.region 7 ⟨o1⟩ false) .ret)))
theorem body : Try.f34.body = some code := by kernel_rfl
theorem main (P : PT) : ∀ env H, (En 21 k3 (B9 P)) env H → AW Try.prog T0 code env H (mkQ (ret P) (fun _ _ _ => False) (ret P)) :=
  (r_seq (rB T0_ok (q9 P)) (r_seq (r_seq (rB T0_ok (q8 P)) (r_block (rL (l2 P) (fun N2 => (r_seq (r_seq (rB T0_ok (q7 P N2)) (r_cond rfl r_skip (r_exit (fun _ _ h => h)))) (r_seq (r_block (r_seq (r_seq (rB T0_ok (q6 P N2)) (r_cond rfl (r_seq (rB T0_ok (q5 P N2)) r_ret) r_skip)) (rB T0_ok (q4 P N2)))) (rB T0_ok (q3 P N2)))))))) (r_seq (rB T0_ok (q1 P)) r_ret)))
theorem ac (P : PT) (x0 : Value) (x1 : Int) (H : AHeap) (h : B9 P x0 x1 H) : AC Try.prog T0 34 [x0, (Value.int .i64 x1)] H P :=
  r_fn T0_ok (c := code) (n := 21) Try.func34 body (by kernel_rfl) (main P) (En_mk (x0, x1, ()) (by kernel_rfl) ⟨by kernel_rfl, by kernel_rfl, trivial⟩ h)

end F34
-- loop.example/g01329/laws.szEdgeS
namespace F46
noncomputable def ret (P : PT) : EP := retE T0 12 Try.f46 P
abbrev k0 : Sk := [(1,.i .i64)]
noncomputable def o1 := ob Try.f46 [.r,.r,.r,.l]
def B1 (P : PT) (x1 : Int) (H : AHeap) : Prop :=
  P (Value.int .i64 x1) H
theorem q1 (P : PT) : QB Try.prog T0 12 o1 (ret P) k0 (B1 P) := fun _ _ _  => by kernel_rfl
abbrev k1 : Sk := []
noncomputable def o2 := ob Try.f46 [.r,.r,.l,.r,.l,.l]
def B2 (P : PT) (H : AHeap) : Prop :=
  P (Value.int .i64 (-1)) H
theorem q2 (P : PT) : QB Try.prog T0 12 o2 (ret P) k1 (B2 P) := fun _ _  => by kernel_rfl
noncomputable def o3 := ob Try.f46 [.r,.r,.l,.l]
def B3 (P : PT) (x1 : Int) (H : AHeap) : Prop :=
  pif (decide ((x1 : Int) < 0)) (B2 P H) (B1 P x1 H)
theorem q3 (P : PT) : QB Try.prog T0 12 o3 (cnd 10 (En 12 k1 (B2 P)) (En 12 k0 (B1 P))) k0 (B3 P) := fun _ _ _  => by kernel_rfl
abbrev k2 : Sk := [(0,.v),(1,.i .i64)]
noncomputable def o4 := ob Try.f46 [.r,.l]
def B4 (P : PT) (x0 : Value) (x1 : Int) (H : AHeap) : Prop :=
  lenK x0 (fun n1 => B3 P (IntKind.i64.wrap (x1 - (n1 : Int))) H)
theorem q4 (P : PT) : QB Try.prog T0 12 o4 (En 12 k0 (B3 P)) k2 (B4 P) := fun _ _ _ _  => by kernel_rfl
noncomputable def o5 := ob Try.f46 [.l]
def B5 (P : PT) (x0 : Value) (x1 : Int) (H : AHeap) : Prop :=
  B4 P x0 x1 H
theorem q5 (P : PT) : QB Try.prog T0 12 o5 (En 12 k2 (B4 P)) k2 (B5 P) := fun _ _ _ _  => by kernel_rfl
noncomputable def code : Code := (.seq (.region 0 ⟨o5⟩ false) (.seq (.region 1 ⟨o4⟩ false) (.seq (.seq (.region 2 ⟨o3⟩ false) (.cond (.tmp 10) (.seq (.region 3 ⟨o2⟩ false) .ret) .skip)) (.seq (.region 4 ⟨o1⟩ false) .ret))))
theorem body : Try.f46.body = some code := by kernel_rfl
theorem main (P : PT) : ∀ env H, (En 12 k2 (B5 P)) env H → AW Try.prog T0 code env H (mkQ (ret P) (fun _ _ _ => False) (ret P)) :=
  (r_seq (rB T0_ok (q5 P)) (r_seq (rB T0_ok (q4 P)) (r_seq (r_seq (rB T0_ok (q3 P)) (r_cond rfl (r_seq (rB T0_ok (q2 P)) r_ret) r_skip)) (r_seq (rB T0_ok (q1 P)) r_ret))))
theorem ac (P : PT) (x0 : Value) (x1 : Int) (H : AHeap) (h : B5 P x0 x1 H) : AC Try.prog T0 46 [x0, (Value.int .i64 x1)] H P :=
  r_fn T0_ok (c := code) (n := 12) Try.func46 body (by kernel_rfl) (main P) (En_mk (x0, x1, ()) (by kernel_rfl) ⟨by kernel_rfl, by kernel_rfl, trivial⟩ h)

end F46
-- loop.example/g01329/spec.l01Is
namespace F47
noncomputable def ret (P : PT) : EP := retE T0 56 Try.f47 P
abbrev k0 : Sk := []
noncomputable def o1 := ob Try.f47 [.r,.r,.r,.l]
def B1 (P : PT) (H : AHeap) : Prop :=
  P (Value.bool true) H
theorem q1 (P : PT) : QB Try.prog T0 56 o1 (ret P) k0 (B1 P) := fun _ _  => by kernel_rfl
abbrev k1 : Sk := [(1,.x),(3,.i .i64)]
noncomputable def o3 := ob Try.f47 [.r,.r,.l,.r,.l,.l,.r,.r]
def B3 (P : PT) (N2 : NTy k1 Pr) (x1 : Nat) (x3 : Int) (H : AHeap) : Prop :=
  N2 x1 (IntKind.i64.wrap (x3 + 1)) H
theorem q3 (P : PT) (N2 : NTy k1 Pr) : QB Try.prog T0 56 o3 (En 56 k1 N2) k1 (B3 P N2) := fun _ _ _ _  => by kernel_rfl
noncomputable def o4 := ob Try.f47 [.r,.r,.l,.r,.l,.l,.r,.l,.l,.r,.l,.l]
def B4 (P : PT) (N2 : NTy k1 Pr) (H : AHeap) : Prop :=
  P (Value.bool false) H
theorem q4 (P : PT) (N2 : NTy k1 Pr) : QB Try.prog T0 56 o4 (ret P) k0 (B4 P N2) := fun _ _  => by kernel_rfl
noncomputable def o5 := ob Try.f47 [.r,.r,.l,.r,.l,.l,.r,.l,.l,.l]
def B5 (P : PT) (N2 : NTy k1 Pr) (x1 : Nat) (x3 : Int) (H : AHeap) : Prop :=
  ld1 H x1 1 (fun v1 => idxK v1 x3 2 (fun b2 o3 => ldI .i64 H b2 o3 (fun v4 => ld1 H x1 1 (fun v5 => idxK v5 x3 2 (fun b6 o7 => ldI .i64 H b6 (o7 + 1) (fun v8 => pif (decide ((v4 : Int) > v8)) (B4 P N2 H) (pif (decide ((x3 : Int) > 0)) (ld1 H x1 1 (fun v9 => idxK v9 x3 2 (fun b10 o11 => ldI .i64 H b10 o11 (fun v12 => ldI .i64 H b10 (o11 + 1) (fun v13 => ld1 H x1 1 (fun v14 => idxK v14 (IntKind.i64.wrap (x3 - 1)) 2 (fun b15 o16 => ldI .i64 H b15 o16 (fun v17 => ldI .i64 H b15 (o16 + 1) (fun v18 => AC Try.prog T0 96 [(Value.agg ⟨[(Value.int .i64 v12), (Value.int .i64 v13)]⟩), (Value.agg ⟨[(Value.int .i64 v17), (Value.int .i64 v18)]⟩)] H (fun v19 H20 => asB v19 (fun v21 => pif v21 (B4 P N2 H20) (B3 P N2 x1 x3 H20)))))))))))) (B3 P N2 x1 x3 H))))))))
theorem q5 (P : PT) (N2 : NTy k1 Pr) : QD Try.prog T0 56 o5 [(0, false), (1, false), (2, false), (3, false), (4, false), (5, false), (6, false), (7, false), (8, false), (9, false), (10, false), (11, false), (12, false), (13, false), (14, false), (15, false), (16, false), (17, false), (18, false), (19, false), (20, false), (21, false), (22, false), (23, false), (24, false), (25, false), (26, false), (27, false), (28, false), (29, false), (30, false)] (cnd 55 (En 56 k0 (B4 P N2)) (En 56 k1 (B3 P N2))) k1 (B5 P N2) := fun _ _ _ _  => by kernel_rfl
noncomputable def o6 := ob Try.f47 [.r,.r,.l,.r,.l,.l,.l,.l]
def B6 (P : PT) (N2 : NTy k1 Pr) (x1 : Nat) (x3 : Int) (H : AHeap) : Prop :=
  ld1 H x1 1 (fun v1 => lenK v1 (fun n2 => pif (decide ((x3 : Int) < (n2 : Int))) (B5 P N2 x1 x3 H) (B1 P H)))
theorem q6 (P : PT) (N2 : NTy k1 Pr) : QB Try.prog T0 56 o6 (cnd 22 (En 56 k1 (B5 P N2)) (En 56 k0 (B1 P))) k1 (B6 P N2) := fun _ _ _ _  => by kernel_rfl
def L2 (P : PT) (x1 : Nat) (x3 : Int) (H : AHeap) : Prop :=
  ∃ (I : NTy k1 Pr) (μ : NTy k1 (AHeap → Nat)), I x1 x3 H ∧ ∀ y1 y3 G, I y1 y3 G → B6 P (fun z1 z3 G' => I z1 z3 G' ∧ μ z1 z3 G' < μ y1 y3 G) y1 y3 G
theorem l2 (P : PT) : LQ k1 (L2 P) (B6 P) := fun ⟨_,_,_⟩ _ ⟨I, μ, h0, hI⟩ => ⟨apT _ I, apT _ μ, h0, fun ⟨_,_,_⟩ _ h => hI _ _ _  h⟩
abbrev k2 : Sk := [(1,.x)]
noncomputable def o7 := ob Try.f47 [.r,.r,.l,.l]
def B7 (P : PT) (x1 : Nat) (H : AHeap) : Prop :=
  L2 P x1 0 H
theorem q7 (P : PT) : QB Try.prog T0 56 o7 (En 56 k1 (L2 P)) k2 (B7 P) := fun _ _ _  => by kernel_rfl
noncomputable def o8 := ob Try.f47 [.r,.l,.r,.l,.l]
def B8 (P : PT) (H : AHeap) : Prop :=
  P (Value.bool false) H
theorem q8 (P : PT) : QB Try.prog T0 56 o8 (ret P) k0 (B8 P) := fun _ _  => by kernel_rfl
noncomputable def o9 := ob Try.f47 [.r,.l,.l]
def B9 (P : PT) (x1 : Nat) (H : AHeap) : Prop :=
  ldI .i64 H x1 0 (fun v1 => ld1 H x1 1 (fun v2 => AC Try.prog T0 94 [(Value.int .i64 v1), v2] H (fun v3 H4 => asI .i64 v3 (fun v5 => pif ((v5 : Int) != 0) (B8 P H4) (ldI .i64 H4 x1 0 (fun v6 => ld1 H4 x1 1 (fun v7 => AC Try.prog T0 95 [(Value.int .i64 v6), v7] H4 (fun v8 H9 => asB v8 (fun v10 => pif (!v10) (B8 P H9) (B7 P x1 H9))))))))))
theorem q9 (P : PT) : QB Try.prog T0 56 o9 (cnd 17 (En 56 k0 (B8 P)) (En 56 k2 (B7 P))) k2 (B9 P) := fun _ _ _  => by kernel_rfl
abbrev k3 : Sk := [(0,.g [.i,.v])]
noncomputable def o10 := ob Try.f47 [.l]
def B10 (P : PT) (x0a : Int) (x0b : Value) (H : AHeap) : Prop :=
  newK H [(Value.int .i64 x0a), x0b] 32 (fun b1 H2 => B9 P b1 H2)
theorem q10 (P : PT) : QB Try.prog T0 56 o10 (En 56 k2 (B9 P)) k3 (B10 P) := fun _ _ _ _  => by kernel_rfl
noncomputable def code : Code := (.seq (.region 0 ⟨o10⟩ false) (.seq (.seq (.region 1 ⟨o9⟩ false) (.cond (.tmp 17) (.seq (.region 2 ⟨o8⟩ false) .ret) .skip)) (.seq (.seq (.region 3 ⟨o7⟩ false) (.block 0 (.loop (.seq (.seq (.region 4 ⟨o6⟩ false) (.cond (.tmp 22) .skip (.exit 0))) (.seq (.block 1 (.seq (.region 6 ⟨o5⟩ true) (.cond (.tmp 55) (.seq (.region 7 ⟨o4⟩ false) .ret) .skip))) (.region 5 ⟨o3⟩ false)))))) (.seq (.region 8 ⟨o1⟩ false) .ret))))
theorem body : Try.f47.body = some code := by kernel_rfl
theorem main (P : PT) : ∀ env H, (En 56 k3 (B10 P)) env H → AW Try.prog T0 code env H (mkQ (ret P) (fun _ _ _ => False) (ret P)) :=
  (r_seq (rB T0_ok (q10 P)) (r_seq (r_seq (rB T0_ok (q9 P)) (r_cond rfl (r_seq (rB T0_ok (q8 P)) r_ret) r_skip)) (r_seq (r_seq (rB T0_ok (q7 P)) (r_block (rL (l2 P) (fun N2 => (r_seq (r_seq (rB T0_ok (q6 P N2)) (r_cond rfl r_skip (r_exit (fun _ _ h => h)))) (r_seq (r_block (r_seq (rD T0_ok mixed [(0, false), (1, false), (2, false), (3, false), (4, false), (5, false), (6, false), (7, false), (8, false), (9, false), (10, false), (11, false), (12, false), (13, false), (14, false), (15, false), (16, false), (17, false), (18, false), (19, false), (20, false), (21, false), (22, false), (23, false), (24, false), (25, false), (26, false), (27, false), (28, false), (29, false), (30, false)] (by kernel_rfl) (q5 P N2)) (r_cond rfl (r_seq (rB T0_ok (q4 P N2)) r_ret) r_skip))) (rB T0_ok (q3 P N2)))))))) (r_seq (rB T0_ok (q1 P)) r_ret))))
theorem ac (P : PT) (x0a : Int) (x0b : Value) (H : AHeap) (h : B10 P x0a x0b H) : AC Try.prog T0 47 [(Value.agg ⟨[(Value.int .i64 x0a), x0b]⟩)] H P :=
  r_fn T0_ok (c := code) (n := 56) Try.func47 body (by kernel_rfl) (main P) (En_mk (x0a, x0b, ()) (by kernel_rfl) ⟨by kernel_rfl, trivial⟩ h)

end F47
-- loop.example/g01329/spec.l01In
namespace F48
noncomputable def ret (P : PT) : EP := retE T0 15 Try.f48 P
abbrev k0 : Sk := [(0,.i .i64),(1,.i .i64),(2,.i .i64)]
noncomputable def o1 := ob Try.f48 [.r,.l]
def B1 (P : PT) (x0 x1 x2 : Int) (H : AHeap) : Prop :=
  pif (decide ((x0 : Int) ≥ x1)) (P (Value.bool (decide ((x0 : Int) ≤ x2))) H) (P (Value.bool false) H)
theorem q1 (P : PT) : QB Try.prog T0 15 o1 (ret P) k0 (B1 P) := fun _ _ _ _ _  => by kernel_rfl
noncomputable def o2 := ob Try.f48 [.l]
def B2 (P : PT) (x0 x1 x2 : Int) (H : AHeap) : Prop :=
  B1 P x0 x1 x2 H
theorem q2 (P : PT) : QB Try.prog T0 15 o2 (En 15 k0 (B1 P)) k0 (B2 P) := fun _ _ _ _ _  => by kernel_rfl
noncomputable def code : Code := (.seq (.region 0 ⟨o2⟩ false) (.seq (.region 1 ⟨o1⟩ false) .ret))
theorem body : Try.f48.body = some code := by kernel_rfl
theorem main (P : PT) : ∀ env H, (En 15 k0 (B2 P)) env H → AW Try.prog T0 code env H (mkQ (ret P) (fun _ _ _ => False) (ret P)) :=
  (r_seq (rB T0_ok (q2 P)) (r_seq (rB T0_ok (q1 P)) r_ret))
theorem ac (P : PT) (x0 x1 x2 : Int) (H : AHeap) (h : B2 P x0 x1 x2 H) : AC Try.prog T0 48 [(Value.int .i64 x0), (Value.int .i64 x1), (Value.int .i64 x2)] H P :=
  r_fn T0_ok (c := code) (n := 15) Try.func48 body (by kernel_rfl) (main P) (En_mk (x0, x1, x2, ()) (by kernel_rfl) ⟨by kernel_rfl, by kernel_rfl, by kernel_rfl, trivial⟩ h)

end F48
-- loop.example/g01329/spec.l01At
namespace F49
noncomputable def ret (P : PT) : EP := retE T0 38 Try.f49 P
abbrev k0 : Sk := [(5,.v)]
noncomputable def o1 := ob Try.f49 [.r,.r,.r,.l]
def B1 (P : PT) (x5 : Value) (H : AHeap) : Prop :=
  P x5 H
theorem q1 (P : PT) : QB Try.prog T0 38 o1 (ret P) k0 (B1 P) := fun _ _ _  => by kernel_rfl
abbrev k1 : Sk := [(1,.i .i64),(2,.x),(5,.v),(6,.i .i64)]
noncomputable def o3 := ob Try.f49 [.r,.r,.l,.r,.l,.l,.r,.r]
def B3 (P : PT) (N2 : NTy k1 Pr) (x1 : Int) (x2 : Nat) (x5 : Value) (x6 : Int) (H : AHeap) : Prop :=
  N2 x1 x2 x5 (IntKind.i64.wrap (x6 + 1)) H
theorem q3 (P : PT) (N2 : NTy k1 Pr) : QB Try.prog T0 38 o3 (En 38 k1 N2) k1 (B3 P N2) := fun _ _ _ _ _ _  => by kernel_rfl
noncomputable def o4 := ob Try.f49 [.r,.r,.l,.r,.l,.l,.r,.l,.l,.r,.l]
def B4 (P : PT) (N2 : NTy k1 Pr) (x1 : Int) (x2 : Nat) (x5 : Value) (x6 : Int) (H : AHeap) : Prop :=
  newK H [(Value.int .i64 x6)] 2 (fun b1 H2 => apK T0 2 H2 x5 (Value.slice (some ⟨b1, 0, none⟩) 1 (1 + 1)) (fun v3 H4 => B3 P N2 x1 x2 v3 x6 H4))
theorem q4 (P : PT) (N2 : NTy k1 Pr) : QB Try.prog T0 38 o4 (En 38 k1 (B3 P N2)) k1 (B4 P N2) := fun _ _ _ _ _ _  => by kernel_rfl
noncomputable def o5 := ob Try.f49 [.r,.r,.l,.r,.l,.l,.r,.l,.l,.l]
def B5 (P : PT) (N2 : NTy k1 Pr) (x1 : Int) (x2 : Nat) (x5 : Value) (x6 : Int) (H : AHeap) : Prop :=
  ld1 H x2 1 (fun v1 => idxK v1 x6 2 (fun b2 o3 => ldI .i64 H b2 o3 (fun v4 => pif ((v4 : Int) == x1) (B4 P N2 x1 x2 x5 x6 H) (ld1 H x2 1 (fun v5 => idxK v5 x6 2 (fun b6 o7 => ldI .i64 H b6 (o7 + 1) (fun v8 => pif ((v8 : Int) == x1) (B4 P N2 x1 x2 x5 x6 H) (B3 P N2 x1 x2 x5 x6 H))))))))
theorem q5 (P : PT) (N2 : NTy k1 Pr) : QB Try.prog T0 38 o5 (cnd 32 (En 38 k1 (B4 P N2)) (En 38 k1 (B3 P N2))) k1 (B5 P N2) := fun _ _ _ _ _ _  => by kernel_rfl
noncomputable def o6 := ob Try.f49 [.r,.r,.l,.r,.l,.l,.l,.l]
def B6 (P : PT) (N2 : NTy k1 Pr) (x1 : Int) (x2 : Nat) (x5 : Value) (x6 : Int) (H : AHeap) : Prop :=
  ld1 H x2 1 (fun v1 => lenK v1 (fun n2 => pif (decide ((x6 : Int) < (n2 : Int))) (B5 P N2 x1 x2 x5 x6 H) (B1 P x5 H)))
theorem q6 (P : PT) (N2 : NTy k1 Pr) : QB Try.prog T0 38 o6 (cnd 12 (En 38 k1 (B5 P N2)) (En 38 k0 (B1 P))) k1 (B6 P N2) := fun _ _ _ _ _ _  => by kernel_rfl
def L2 (P : PT) (x1 : Int) (x2 : Nat) (x5 : Value) (x6 : Int) (H : AHeap) : Prop :=
  ∃ (I : NTy k1 Pr) (μ : NTy k1 (AHeap → Nat)), I x1 x2 x5 x6 H ∧ ∀ y1 y2 y5 y6 G, I y1 y2 y5 y6 G → B6 P (fun z1 z2 z5 z6 G' => I z1 z2 z5 z6 G' ∧ μ z1 z2 z5 z6 G' < μ y1 y2 y5 y6 G) y1 y2 y5 y6 G
theorem l2 (P : PT) : LQ k1 (L2 P) (B6 P) := fun ⟨_,_,_,_,_⟩ _ ⟨I, μ, h0, hI⟩ => ⟨apT _ I, apT _ μ, h0, fun ⟨_,_,_,_,_⟩ _ h => hI _ _ _ _ _  h⟩
abbrev k2 : Sk := [(1,.i .i64),(2,.x),(5,.v)]
noncomputable def o7 := ob Try.f49 [.r,.r,.l,.l]
def B7 (P : PT) (x1 : Int) (x2 : Nat) (x5 : Value) (H : AHeap) : Prop :=
  L2 P x1 x2 x5 0 H
theorem q7 (P : PT) : QB Try.prog T0 38 o7 (En 38 k1 (L2 P)) k2 (B7 P) := fun _ _ _ _ _  => by kernel_rfl
abbrev k3 : Sk := [(1,.i .i64),(2,.x)]
noncomputable def o8 := ob Try.f49 [.r,.l]
def B8 (P : PT) (x1 : Int) (x2 : Nat) (H : AHeap) : Prop :=
  newK H [] 2 (fun b1 H2 => B7 P x1 x2 (Value.slice (some ⟨b1, 0, none⟩) 0 (0 + 1)) H2)
theorem q8 (P : PT) : QB Try.prog T0 38 o8 (En 38 k2 (B7 P)) k3 (B8 P) := fun _ _ _ _  => by kernel_rfl
abbrev k4 : Sk := [(0,.g [.i,.v]),(1,.i .i64)]
noncomputable def o9 := ob Try.f49 [.l]
def B9 (P : PT) (x0a : Int) (x0b : Value) (x1 : Int) (H : AHeap) : Prop :=
  newK H [(Value.int .i64 x0a), x0b] 32 (fun b1 H2 => B8 P x1 b1 H2)
theorem q9 (P : PT) : QB Try.prog T0 38 o9 (En 38 k3 (B8 P)) k4 (B9 P) := fun _ _ _ _ _  => by kernel_rfl
noncomputable def code : Code := (.seq (.region 0 ⟨o9⟩ false) (.seq (.region 1 ⟨o8⟩ false) (.seq (.seq (.region 2 ⟨o7⟩ false) (.block 0 (.loop (.seq (.seq (.region 3 ⟨o6⟩ false) (.cond (.tmp 12) .skip (.exit 0))) (.seq (.block 1 (.seq (.region 5 ⟨o5⟩ false) (.cond (.tmp 32) (.region 6 ⟨o4⟩ false) .skip))) (.region 4 ⟨o3⟩ false)))))) (.seq (.region 7 ⟨o1⟩ false) .ret))))
theorem body : Try.f49.body = some code := by kernel_rfl
theorem main (P : PT) : ∀ env H, (En 38 k4 (B9 P)) env H → AW Try.prog T0 code env H (mkQ (ret P) (fun _ _ _ => False) (ret P)) :=
  (r_seq (rB T0_ok (q9 P)) (r_seq (rB T0_ok (q8 P)) (r_seq (r_seq (rB T0_ok (q7 P)) (r_block (rL (l2 P) (fun N2 => (r_seq (r_seq (rB T0_ok (q6 P N2)) (r_cond rfl r_skip (r_exit (fun _ _ h => h)))) (r_seq (r_block (r_seq (rB T0_ok (q5 P N2)) (r_cond rfl (rB T0_ok (q4 P N2)) r_skip))) (rB T0_ok (q3 P N2)))))))) (r_seq (rB T0_ok (q1 P)) r_ret))))
theorem ac (P : PT) (x0a : Int) (x0b : Value) (x1 : Int) (H : AHeap) (h : B9 P x0a x0b x1 H) : AC Try.prog T0 49 [(Value.agg ⟨[(Value.int .i64 x0a), x0b]⟩), (Value.int .i64 x1)] H P :=
  r_fn T0_ok (c := code) (n := 38) Try.func49 body (by kernel_rfl) (main P) (En_mk (x0a, x0b, x1, ()) (by kernel_rfl) ⟨by kernel_rfl, by kernel_rfl, trivial⟩ h)

end F49
-- loop.example/g01329/laws.toEdgeS
namespace F51
noncomputable def ret (P : PT) : EP := retE T0 23 Try.f51 P
abbrev k0 : Sk := [(3,.v)]
noncomputable def o1 := ob Try.f51 [.r,.r,.r,.l]
def B1 (P : PT) (x3 : Value) (H : AHeap) : Prop :=
  P x3 H
theorem q1 (P : PT) : QB Try.prog T0 23 o1 (ret P) k0 (B1 P) := fun _ _ _  => by kernel_rfl
abbrev k1 : Sk := [(0,.v),(3,.v),(4,.i .i64)]
noncomputable def o3 := ob Try.f51 [.r,.r,.l,.r,.l,.l,.r,.r]
def B3 (P : PT) (N2 : NTy k1 Pr) (x0 x3 : Value) (x4 : Int) (H : AHeap) : Prop :=
  N2 x0 x3 (IntKind.i64.wrap (x4 + 1)) H
theorem q3 (P : PT) (N2 : NTy k1 Pr) : QB Try.prog T0 23 o3 (En 23 k1 N2) k1 (B3 P N2) := fun _ _ _ _ _  => by kernel_rfl
noncomputable def o4 := ob Try.f51 [.r,.r,.l,.r,.l,.l,.r,.l,.l]
def B4 (P : PT) (N2 : NTy k1 Pr) (x0 x3 : Value) (x4 : Int) (H : AHeap) : Prop :=
  idxK x0 x4 2 (fun b1 o2 => ldI .i64 H b1 o2 (fun v3 => ldI .i64 H b1 (o2 + 1) (fun v4 => AC Try.prog T0 98 [(Value.agg ⟨[(Value.int .i64 v3), (Value.int .i64 v4)]⟩)] H (fun v5 H6 => agg2 v5 (fun v7 v8 => asI .i64 v7 (fun v9 => asI .i64 v8 (fun v10 => idxK x3 x4 2 (fun b11 o12 => stK H6 b11 o12 [(Value.int .i64 v9), (Value.int .i64 v10)] (fun H13 => B3 P N2 x0 x3 x4 H13)))))))))
theorem q4 (P : PT) (N2 : NTy k1 Pr) : QB Try.prog T0 23 o4 (En 23 k1 (B3 P N2)) k1 (B4 P N2) := fun _ _ _ _ _  => by kernel_rfl
noncomputable def o5 := ob Try.f51 [.r,.r,.l,.r,.l,.l,.l,.l]
def B5 (P : PT) (N2 : NTy k1 Pr) (x0 x3 : Value) (x4 : Int) (H : AHeap) : Prop :=
  lenK x0 (fun n1 => pif (decide ((x4 : Int) < (n1 : Int))) (B4 P N2 x0 x3 x4 H) (B1 P x3 H))
theorem q5 (P : PT) (N2 : NTy k1 Pr) : QB Try.prog T0 23 o5 (cnd 11 (En 23 k1 (B4 P N2)) (En 23 k0 (B1 P))) k1 (B5 P N2) := fun _ _ _ _ _  => by kernel_rfl
def L2 (P : PT) (x0 x3 : Value) (x4 : Int) (H : AHeap) : Prop :=
  ∃ (I : NTy k1 Pr) (μ : NTy k1 (AHeap → Nat)), I x0 x3 x4 H ∧ ∀ y0 y3 y4 G, I y0 y3 y4 G → B5 P (fun z0 z3 z4 G' => I z0 z3 z4 G' ∧ μ z0 z3 z4 G' < μ y0 y3 y4 G) y0 y3 y4 G
theorem l2 (P : PT) : LQ k1 (L2 P) (B5 P) := fun ⟨_,_,_,_⟩ _ ⟨I, μ, h0, hI⟩ => ⟨apT _ I, apT _ μ, h0, fun ⟨_,_,_,_⟩ _ h => hI _ _ _ _  h⟩
abbrev k2 : Sk := [(0,.v),(3,.v)]
noncomputable def o6 := ob Try.f51 [.r,.r,.l,.l]
def B6 (P : PT) (x0 x3 : Value) (H : AHeap) : Prop :=
  L2 P x0 x3 0 H
theorem q6 (P : PT) : QB Try.prog T0 23 o6 (En 23 k1 (L2 P)) k2 (B6 P) := fun _ _ _ _  => by kernel_rfl
abbrev k3 : Sk := [(0,.v)]
noncomputable def o7 := ob Try.f51 [.r,.l]
def B7 (P : PT) (x0 : Value) (H : AHeap) : Prop :=
  lenK x0 (fun n1 => mkR H 16 100 [(Value.int .i64 0), (Value.int .i64 0)] (n1 : Int) (n1 : Int) (fun v3 H2 => B6 P x0 v3 H2))
theorem q7 (P : PT) : QB Try.prog T0 23 o7 (En 23 k2 (B6 P)) k3 (B7 P) := fun _ _ _  => by kernel_rfl
noncomputable def o8 := ob Try.f51 [.l]
def B8 (P : PT) (x0 : Value) (H : AHeap) : Prop :=
  B7 P x0 H
theorem q8 (P : PT) : QB Try.prog T0 23 o8 (En 23 k3 (B7 P)) k3 (B8 P) := fun _ _ _  => by kernel_rfl
noncomputable def code : Code := (.seq (.region 0 ⟨o8⟩ false) (.seq (.region 1 ⟨o7⟩ false) (.seq (.seq (.region 2 ⟨o6⟩ false) (.block 0 (.loop (.seq (.seq (.region 3 ⟨o5⟩ false) (.cond (.tmp 11) .skip (.exit 0))) (.seq (.block 1 (.region 5 ⟨o4⟩ false)) (.region 4 ⟨o3⟩ false)))))) (.seq (.region 6 ⟨o1⟩ false) .ret))))
theorem body : Try.f51.body = some code := by kernel_rfl
theorem main (P : PT) : ∀ env H, (En 23 k3 (B8 P)) env H → AW Try.prog T0 code env H (mkQ (ret P) (fun _ _ _ => False) (ret P)) :=
  (r_seq (rB T0_ok (q8 P)) (r_seq (rB T0_ok (q7 P)) (r_seq (r_seq (rB T0_ok (q6 P)) (r_block (rL (l2 P) (fun N2 => (r_seq (r_seq (rB T0_ok (q5 P N2)) (r_cond rfl r_skip (r_exit (fun _ _ h => h)))) (r_seq (r_block (rB T0_ok (q4 P N2))) (rB T0_ok (q3 P N2)))))))) (r_seq (rB T0_ok (q1 P)) r_ret))))
theorem ac (P : PT) (x0 : Value) (H : AHeap) (h : B8 P x0 H) : AC Try.prog T0 51 [x0] H P :=
  r_fn T0_ok (c := code) (n := 23) Try.func51 body (by kernel_rfl) (main P) (En_mk (x0, ()) (by kernel_rfl) ⟨by kernel_rfl, trivial⟩ h)

end F51
-- loop.example/g01329/impl.graphCode
namespace F52
noncomputable def ret (P : PT) : EP := retE T0 12 Try.f52 P
abbrev k0 : Sk := []
noncomputable def o1 := ob Try.f52 [.r,.r,.l]
def B1 (P : PT) (H : AHeap) : Prop :=
  P (Value.int .i64 0) H
theorem q1 (P : PT) : QB Try.prog T0 12 o1 (ret P) k0 (B1 P) := fun _ _  => by kernel_rfl
noncomputable def o2 := ob Try.f52 [.r,.l,.l,.r,.l,.l]
def B2 (P : PT) (H : AHeap) : Prop :=
  P (Value.int .i64 1) H
theorem q2 (P : PT) : QB Try.prog T0 12 o2 (ret P) k0 (B2 P) := fun _ _  => by kernel_rfl
noncomputable def o3 := ob Try.f52 [.r,.l,.l,.r,.r,.r,.l,.l]
def B3 (P : PT) (H : AHeap) : Prop :=
  P (Value.int .i64 2) H
theorem q3 (P : PT) : QB Try.prog T0 12 o3 (ret P) k0 (B3 P) := fun _ _  => by kernel_rfl
abbrev k1 : Sk := [(1,.b)]
noncomputable def o4 := ob Try.f52 [.r,.l,.l,.r,.r,.l]
def B4 (P : PT) (x1 : Bool) (H : AHeap) : Prop :=
  pif (!x1) (B3 P H) (B1 P H)
theorem q4 (P : PT) : QB Try.prog T0 12 o4 (cnd 9 (En 12 k0 (B3 P)) (En 12 k0 (B1 P))) k1 (B4 P) := fun _ _ _  => by kernel_rfl
abbrev k2 : Sk := [(1,.b),(2,.x)]
noncomputable def o5 := ob Try.f52 [.r,.l,.l,.l]
def B5 (P : PT) (x1 : Bool) (x2 : Nat) (H : AHeap) : Prop :=
  ldI .i64 H x2 0 (fun v1 => ld1 H x2 1 (fun v2 => AC Try.prog T0 99 [(Value.agg ⟨[(Value.int .i64 v1), v2]⟩)] H (fun v3 H4 => asB v3 (fun v5 => pif (!v5) (B2 P H4) (B4 P x1 H4)))))
theorem q5 (P : PT) : QB Try.prog T0 12 o5 (cnd 5 (En 12 k0 (B2 P)) (En 12 k1 (B4 P))) k2 (B5 P) := fun _ _ _ _  => by kernel_rfl
abbrev k3 : Sk := [(0,.g [.i,.v]),(1,.b)]
noncomputable def o6 := ob Try.f52 [.l]
def B6 (P : PT) (x0a : Int) (x0b : Value) (x1 : Bool) (H : AHeap) : Prop :=
  newK H [(Value.int .i64 x0a), x0b] 32 (fun b1 H2 => B5 P x1 b1 H2)
theorem q6 (P : PT) : QB Try.prog T0 12 o6 (En 12 k2 (B5 P)) k3 (B6 P) := fun _ _ _ _ _  => by kernel_rfl
noncomputable def code : Code := (.seq (.region 0 ⟨o6⟩ false) (.seq (.block 0 (.seq (.region 1 ⟨o5⟩ false) (.cond (.tmp 5) (.seq (.region 2 ⟨o2⟩ false) .ret) (.seq (.region 3 ⟨o4⟩ false) (.cond (.tmp 9) (.seq (.region 4 ⟨o3⟩ false) .ret) .skip))))) (.seq (.region 5 ⟨o1⟩ false) .ret)))
theorem body : Try.f52.body = some code := by kernel_rfl
theorem main (P : PT) : ∀ env H, (En 12 k3 (B6 P)) env H → AW Try.prog T0 code env H (mkQ (ret P) (fun _ _ _ => False) (ret P)) :=
  (r_seq (rB T0_ok (q6 P)) (r_seq (r_block (r_seq (rB T0_ok (q5 P)) (r_cond rfl (r_seq (rB T0_ok (q2 P)) r_ret) (r_seq (rB T0_ok (q4 P)) (r_cond rfl (r_seq (rB T0_ok (q3 P)) r_ret) r_skip))))) (r_seq (rB T0_ok (q1 P)) r_ret)))
theorem ac (P : PT) (x0a : Int) (x0b : Value) (x1 : Bool) (H : AHeap) (h : B6 P x0a x0b x1 H) : AC Try.prog T0 52 [(Value.agg ⟨[(Value.int .i64 x0a), x0b]⟩), (Value.bool x1)] H P :=
  r_fn T0_ok (c := code) (n := 12) Try.func52 body (by kernel_rfl) (main P) (En_mk (x0a, x0b, x1, ()) (by kernel_rfl) ⟨by kernel_rfl, by kernel_rfl, trivial⟩ h)

end F52
-- loop.example/g01329/laws.eqEdgeS
namespace F57
noncomputable def ret (P : PT) : EP := retE T0 27 Try.f57 P
abbrev k0 : Sk := []
noncomputable def o1 := ob Try.f57 [.r,.r,.r,.l]
def B1 (P : PT) (H : AHeap) : Prop :=
  P (Value.bool true) H
theorem q1 (P : PT) : QB Try.prog T0 27 o1 (ret P) k0 (B1 P) := fun _ _  => by kernel_rfl
abbrev k1 : Sk := [(0,.v),(1,.v),(5,.i .i64)]
noncomputable def o3 := ob Try.f57 [.r,.r,.l,.r,.l,.l,.r,.r]
def B3 (P : PT) (N2 : NTy k1 Pr) (x0 x1 : Value) (x5 : Int) (H : AHeap) : Prop :=
  N2 x0 x1 (IntKind.i64.wrap (x5 + 1)) H
theorem q3 (P : PT) (N2 : NTy k1 Pr) : QB Try.prog T0 27 o3 (En 27 k1 N2) k1 (B3 P N2) := fun _ _ _ _ _  => by kernel_rfl
noncomputable def o4 := ob Try.f57 [.r,.r,.l,.r,.l,.l,.r,.l,.l,.r,.l,.l]
def B4 (P : PT) (N2 : NTy k1 Pr) (H : AHeap) : Prop :=
  P (Value.bool false) H
theorem q4 (P : PT) (N2 : NTy k1 Pr) : QB Try.prog T0 27 o4 (ret P) k0 (B4 P N2) := fun _ _  => by kernel_rfl
noncomputable def o5 := ob Try.f57 [.r,.r,.l,.r,.l,.l,.r,.l,.l,.l]
def B5 (P : PT) (N2 : NTy k1 Pr) (x0 x1 : Value) (x5 : Int) (H : AHeap) : Prop :=
  idxK x0 x5 2 (fun b1 o2 => ldI .i64 H b1 o2 (fun v3 => ldI .i64 H b1 (o2 + 1) (fun v4 => idxK x1 x5 2 (fun b5 o6 => ldI .i64 H b5 o6 (fun v7 => ldI .i64 H b5 (o6 + 1) (fun v8 => AC Try.prog T0 106 [(Value.agg ⟨[(Value.int .i64 v3), (Value.int .i64 v4)]⟩), (Value.agg ⟨[(Value.int .i64 v7), (Value.int .i64 v8)]⟩)] H (fun v9 H10 => asB v9 (fun v11 => pif (!v11) (B4 P N2 H10) (B3 P N2 x0 x1 x5 H10)))))))))
theorem q5 (P : PT) (N2 : NTy k1 Pr) : QD Try.prog T0 27 o5 [(0, false), (1, false), (2, false), (3, false), (4, false), (5, false), (6, false), (7, false), (8, false), (9, false)] (cnd 26 (En 27 k0 (B4 P N2)) (En 27 k1 (B3 P N2))) k1 (B5 P N2) := fun _ _ _ _ _  => by kernel_rfl
noncomputable def o6 := ob Try.f57 [.r,.r,.l,.r,.l,.l,.l,.l]
def B6 (P : PT) (N2 : NTy k1 Pr) (x0 x1 : Value) (x5 : Int) (H : AHeap) : Prop :=
  lenK x0 (fun n1 => pif (decide ((x5 : Int) < (n1 : Int))) (B5 P N2 x0 x1 x5 H) (B1 P H))
theorem q6 (P : PT) (N2 : NTy k1 Pr) : QB Try.prog T0 27 o6 (cnd 14 (En 27 k1 (B5 P N2)) (En 27 k0 (B1 P))) k1 (B6 P N2) := fun _ _ _ _ _  => by kernel_rfl
def L2 (P : PT) (x0 x1 : Value) (x5 : Int) (H : AHeap) : Prop :=
  ∃ (I : NTy k1 Pr) (μ : NTy k1 (AHeap → Nat)), I x0 x1 x5 H ∧ ∀ y0 y1 y5 G, I y0 y1 y5 G → B6 P (fun z0 z1 z5 G' => I z0 z1 z5 G' ∧ μ z0 z1 z5 G' < μ y0 y1 y5 G) y0 y1 y5 G
theorem l2 (P : PT) : LQ k1 (L2 P) (B6 P) := fun ⟨_,_,_,_⟩ _ ⟨I, μ, h0, hI⟩ => ⟨apT _ I, apT _ μ, h0, fun ⟨_,_,_,_⟩ _ h => hI _ _ _ _  h⟩
abbrev k2 : Sk := [(0,.v),(1,.v)]
noncomputable def o7 := ob Try.f57 [.r,.r,.l,.l]
def B7 (P : PT) (x0 x1 : Value) (H : AHeap) : Prop :=
  L2 P x0 x1 0 H
theorem q7 (P : PT) : QB Try.prog T0 27 o7 (En 27 k1 (L2 P)) k2 (B7 P) := fun _ _ _ _  => by kernel_rfl
noncomputable def o8 := ob Try.f57 [.r,.l,.r,.l,.l]
def B8 (P : PT) (H : AHeap) : Prop :=
  P (Value.bool false) H
theorem q8 (P : PT) : QB Try.prog T0 27 o8 (ret P) k0 (B8 P) := fun _ _  => by kernel_rfl
noncomputable def o9 := ob Try.f57 [.r,.l,.l]
def B9 (P : PT) (x0 x1 : Value) (H : AHeap) : Prop :=
  lenK x0 (fun n1 => lenK x1 (fun n2 => pif (((n1 : Int) : Int) != (n2 : Int)) (B8 P H) (B7 P x0 x1 H)))
theorem q9 (P : PT) : QB Try.prog T0 27 o9 (cnd 10 (En 27 k0 (B8 P)) (En 27 k2 (B7 P))) k2 (B9 P) := fun _ _ _ _  => by kernel_rfl
noncomputable def o10 := ob Try.f57 [.l]
def B10 (P : PT) (x0 x1 : Value) (H : AHeap) : Prop :=
  B9 P x0 x1 H
theorem q10 (P : PT) : QB Try.prog T0 27 o10 (En 27 k2 (B9 P)) k2 (B10 P) := fun _ _ _ _  => by kernel_rfl
noncomputable def code : Code := (.seq (.region 0 ⟨o10⟩ false) (.seq (.seq (.region 1 ⟨o9⟩ false) (.cond (.tmp 10) (.seq (.region 2 ⟨o8⟩ false) .ret) .skip)) (.seq (.seq (.region 3 ⟨o7⟩ false) (.block 0 (.loop (.seq (.seq (.region 4 ⟨o6⟩ false) (.cond (.tmp 14) .skip (.exit 0))) (.seq (.block 1 (.seq (.region 6 ⟨o5⟩ true) (.cond (.tmp 26) (.seq (.region 7 ⟨o4⟩ false) .ret) .skip))) (.region 5 ⟨o3⟩ false)))))) (.seq (.region 8 ⟨o1⟩ false) .ret))))
theorem body : Try.f57.body = some code := by kernel_rfl
theorem main (P : PT) : ∀ env H, (En 27 k2 (B10 P)) env H → AW Try.prog T0 code env H (mkQ (ret P) (fun _ _ _ => False) (ret P)) :=
  (r_seq (rB T0_ok (q10 P)) (r_seq (r_seq (rB T0_ok (q9 P)) (r_cond rfl (r_seq (rB T0_ok (q8 P)) r_ret) r_skip)) (r_seq (r_seq (rB T0_ok (q7 P)) (r_block (rL (l2 P) (fun N2 => (r_seq (r_seq (rB T0_ok (q6 P N2)) (r_cond rfl r_skip (r_exit (fun _ _ h => h)))) (r_seq (r_block (r_seq (rD T0_ok mixed [(0, false), (1, false), (2, false), (3, false), (4, false), (5, false), (6, false), (7, false), (8, false), (9, false)] (by kernel_rfl) (q5 P N2)) (r_cond rfl (r_seq (rB T0_ok (q4 P N2)) r_ret) r_skip))) (rB T0_ok (q3 P N2)))))))) (r_seq (rB T0_ok (q1 P)) r_ret))))
theorem ac (P : PT) (x0 x1 : Value) (H : AHeap) (h : B10 P x0 x1 H) : AC Try.prog T0 57 [x0, x1] H P :=
  r_fn T0_ok (c := code) (n := 27) Try.func57 body (by kernel_rfl) (main P) (En_mk (x0, x1, ()) (by kernel_rfl) ⟨by kernel_rfl, by kernel_rfl, trivial⟩ h)

end F57
-- loop.example/g01329/laws.markEdgeS
namespace F58
noncomputable def ret (P : PT) : EP := retE T0 26 Try.f58 P
abbrev k0 : Sk := [(1,.i .i64)]
noncomputable def o1 := ob Try.f58 [.r,.r,.l]
def B1 (P : PT) (x1 : Int) (H : AHeap) : Prop :=
  P (Value.int .i64 x1) H
theorem q1 (P : PT) : QB Try.prog T0 26 o1 (ret P) k0 (B1 P) := fun _ _ _  => by kernel_rfl
abbrev k1 : Sk := [(0,.v),(1,.i .i64),(5,.i .i64)]
noncomputable def o3 := ob Try.f58 [.r,.l,.r,.l,.l,.r,.r]
def B3 (P : PT) (N2 : NTy k1 Pr) (x0 : Value) (x1 x5 : Int) (H : AHeap) : Prop :=
  N2 x0 x1 (IntKind.i64.wrap (x5 + 1)) H
theorem q3 (P : PT) (N2 : NTy k1 Pr) : QB Try.prog T0 26 o3 (En 26 k1 N2) k1 (B3 P N2) := fun _ _ _ _ _  => by kernel_rfl
abbrev k2 : Sk := [(0,.v),(1,.i .i64),(5,.i .i64),(6,.i .i64)]
noncomputable def o5 := ob Try.f58 [.r,.l,.r,.l,.l,.r,.l,.l,.r,.l,.l,.r,.r]
def B5 (P : PT) (N2 : NTy k1 Pr) (N4 : NTy k2 Pr) (x0 : Value) (x1 x5 x6 : Int) (H : AHeap) : Prop :=
  N4 x0 x1 x5 (IntKind.i64.wrap (x6 + 1)) H
theorem q5 (P : PT) (N2 : NTy k1 Pr) (N4 : NTy k2 Pr) : QB Try.prog T0 26 o5 (En 26 k2 N4) k2 (B5 P N2 N4) := fun _ _ _ _ _ _  => by kernel_rfl
noncomputable def o6 := ob Try.f58 [.r,.l,.r,.l,.l,.r,.l,.l,.r,.l,.l,.r,.l,.l,.r]
def B6 (P : PT) (N2 : NTy k1 Pr) (N4 : NTy k2 Pr) (x0 : Value) (x1 x5 x6 : Int) (H : AHeap) : Prop :=
  B5 P N2 N4 x0 (IntKind.i64.wrap (x1 + 1)) x5 x6 H
theorem q6 (P : PT) (N2 : NTy k1 Pr) (N4 : NTy k2 Pr) : QB Try.prog T0 26 o6 (En 26 k2 (B5 P N2 N4)) k2 (B6 P N2 N4) := fun _ _ _ _ _ _  => by kernel_rfl
noncomputable def o7 := ob Try.f58 [.r,.l,.r,.l,.l,.r,.l,.l,.r,.l,.l,.r,.l,.l,.l]
def B7 (P : PT) (N2 : NTy k1 Pr) (N4 : NTy k2 Pr) (x0 : Value) (x1 x5 x6 : Int) (H : AHeap) : Prop :=
  idxK x0 x5 2 (fun b1 o2 => bndK x6 2 (stK H b1 (o2 + Int.toNat x6 * 1) [(Value.int .i64 x1)] (fun H3 => B6 P N2 N4 x0 x1 x5 x6 H3)))
theorem q7 (P : PT) (N2 : NTy k1 Pr) (N4 : NTy k2 Pr) : QB Try.prog T0 26 o7 (En 26 k2 (B6 P N2 N4)) k2 (B7 P N2 N4) := fun _ _ _ _ _ _  => by kernel_rfl
noncomputable def o8 := ob Try.f58 [.r,.l,.r,.l,.l,.r,.l,.l,.r,.l,.l,.l,.l]
def B8 (P : PT) (N2 : NTy k1 Pr) (N4 : NTy k2 Pr) (x0 : Value) (x1 x5 x6 : Int) (H : AHeap) : Prop :=
  pif (decide ((x6 : Int) < 2)) (B7 P N2 N4 x0 x1 x5 x6 H) (B3 P N2 x0 x1 x5 H)
theorem q8 (P : PT) (N2 : NTy k1 Pr) (N4 : NTy k2 Pr) : QB Try.prog T0 26 o8 (cnd 14 (En 26 k2 (B7 P N2 N4)) (En 26 k1 (B3 P N2))) k2 (B8 P N2 N4) := fun _ _ _ _ _ _  => by kernel_rfl
def L4 (P : PT) (N2 : NTy k1 Pr) (x0 : Value) (x1 x5 x6 : Int) (H : AHeap) : Prop :=
  ∃ (I : NTy k2 Pr) (μ : NTy k2 (AHeap → Nat)), I x0 x1 x5 x6 H ∧ ∀ y0 y1 y5 y6 G, I y0 y1 y5 y6 G → B8 P N2 (fun z0 z1 z5 z6 G' => I z0 z1 z5 z6 G' ∧ μ z0 z1 z5 z6 G' < μ y0 y1 y5 y6 G) y0 y1 y5 y6 G
theorem l4 (P : PT) (N2 : NTy k1 Pr) : LQ k2 (L4 P N2) (B8 P N2) := fun ⟨_,_,_,_,_⟩ _ ⟨I, μ, h0, hI⟩ => ⟨apT _ I, apT _ μ, h0, fun ⟨_,_,_,_,_⟩ _ h => hI _ _ _ _ _  h⟩
noncomputable def o9 := ob Try.f58 [.r,.l,.r,.l,.l,.r,.l,.l,.l]
def B9 (P : PT) (N2 : NTy k1 Pr) (x0 : Value) (x1 x5 : Int) (H : AHeap) : Prop :=
  L4 P N2 x0 x1 x5 0 H
theorem q9 (P : PT) (N2 : NTy k1 Pr) : QB Try.prog T0 26 o9 (En 26 k2 (L4 P N2)) k1 (B9 P N2) := fun _ _ _ _ _  => by kernel_rfl
noncomputable def o10 := ob Try.f58 [.r,.l,.r,.l,.l,.l,.l]
def B10 (P : PT) (N2 : NTy k1 Pr) (x0 : Value) (x1 x5 : Int) (H : AHeap) : Prop :=
  lenK x0 (fun n1 => pif (decide ((x5 : Int) < (n1 : Int))) (B9 P N2 x0 x1 x5 H) (B1 P x1 H))
theorem q10 (P : PT) (N2 : NTy k1 Pr) : QB Try.prog T0 26 o10 (cnd 10 (En 26 k1 (B9 P N2)) (En 26 k0 (B1 P))) k1 (B10 P N2) := fun _ _ _ _ _  => by kernel_rfl
def L2 (P : PT) (x0 : Value) (x1 x5 : Int) (H : AHeap) : Prop :=
  ∃ (I : NTy k1 Pr) (μ : NTy k1 (AHeap → Nat)), I x0 x1 x5 H ∧ ∀ y0 y1 y5 G, I y0 y1 y5 G → B10 P (fun z0 z1 z5 G' => I z0 z1 z5 G' ∧ μ z0 z1 z5 G' < μ y0 y1 y5 G) y0 y1 y5 G
theorem l2 (P : PT) : LQ k1 (L2 P) (B10 P) := fun ⟨_,_,_,_⟩ _ ⟨I, μ, h0, hI⟩ => ⟨apT _ I, apT _ μ, h0, fun ⟨_,_,_,_⟩ _ h => hI _ _ _ _  h⟩
abbrev k3 : Sk := [(0,.v),(1,.i .i64)]
noncomputable def o11 := ob Try.f58 [.r,.l,.l]
def B11 (P : PT) (x0 : Value) (x1 : Int) (H : AHeap) : Prop :=
  L2 P x0 x1 0 H
theorem q11 (P : PT) : QB Try.prog T0 26 o11 (En 26 k1 (L2 P)) k3 (B11 P) := fun _ _ _ _  => by kernel_rfl
noncomputable def o12 := ob Try.f58 [.l]
def B12 (P : PT) (x0 : Value) (x1 : Int) (H : AHeap) : Prop :=
  B11 P x0 x1 H
theorem q12 (P : PT) : QB Try.prog T0 26 o12 (En 26 k3 (B11 P)) k3 (B12 P) := fun _ _ _ _  => by kernel_rfl
noncomputable def code : Code := (.seq (.region 0 ⟨o12⟩ false) (.seq (.seq (.region 1 ⟨o11⟩ false) (.block 0 (.loop (.seq (.seq (.region 2 ⟨o10⟩ false) (.cond (.tmp 10) .skip (.exit 0))) (.seq (.block 1 (.seq (.region 4 ⟨o9⟩ false) (.block 2 (.loop (.seq (.seq (.region 5 ⟨o8⟩ false) (.cond (.tmp 14) .skip (.exit 2))) (.seq (.block 3 (.seq (.region 7 ⟨o7⟩ false) (.region 8 ⟨o6⟩ false))) (.region 6 ⟨o5⟩ false))))))) (.region 3 ⟨o3⟩ false)))))) (.seq (.region 9 ⟨o1⟩ false) .ret)))
theorem body : Try.f58.body = some code := by kernel_rfl
theorem main (P : PT) : ∀ env H, (En 26 k3 (B12 P)) env H → AW Try.prog T0 code env H (mkQ (ret P) (fun _ _ _ => False) (ret P)) :=
  (r_seq (rB T0_ok (q12 P)) (r_seq (r_seq (rB T0_ok (q11 P)) (r_block (rL (l2 P) (fun N2 => (r_seq (r_seq (rB T0_ok (q10 P N2)) (r_cond rfl r_skip (r_exit (fun _ _ h => h)))) (r_seq (r_block (r_seq (rB T0_ok (q9 P N2)) (r_block (rL (l4 P N2) (fun N4 => (r_seq (r_seq (rB T0_ok (q8 P N2 N4)) (r_cond rfl r_skip (r_exit (fun _ _ h => h)))) (r_seq (r_block (r_seq (rB T0_ok (q7 P N2 N4)) (rB T0_ok (q6 P N2 N4)))) (rB T0_ok (q5 P N2 N4))))))))) (rB T0_ok (q3 P N2)))))))) (r_seq (rB T0_ok (q1 P)) r_ret)))
theorem ac (P : PT) (x0 : Value) (x1 : Int) (H : AHeap) (h : B12 P x0 x1 H) : AC Try.prog T0 58 [x0, (Value.int .i64 x1)] H P :=
  r_fn T0_ok (c := code) (n := 26) Try.func58 body (by kernel_rfl) (main P) (En_mk (x0, x1, ()) (by kernel_rfl) ⟨by kernel_rfl, by kernel_rfl, trivial⟩ h)

end F58
-- loop.example/g01329/spec.l08Set
namespace F64
noncomputable def ret (P : PT) : EP := retE T0 17 Try.f64 P
abbrev k0 : Sk := [(1,.x),(3,.i .i64)]
noncomputable def o2 := ob Try.f64 [.r,.r,.l,.l,.r]
def B2 (P : PT) (N1 : NTy k0 Pr) (x1 : Nat) (x3 : Int) (H : AHeap) : Prop :=
  N1 x1 (IntKind.i64.wrap (x3 + 1)) H
theorem q2 (P : PT) (N1 : NTy k0 Pr) : QB Try.prog T0 17 o2 (En 17 k0 N1) k0 (B2 P N1) := fun _ _ _ _  => by kernel_rfl
abbrev k1 : Sk := [(4,.v)]
noncomputable def o3 := ob Try.f64 [.r,.r,.l,.l,.l,.l,.r,.r,.l,.l]
def B3 (P : PT) (N1 : NTy k0 Pr) (x4 : Value) (H : AHeap) : Prop :=
  P x4 H
theorem q3 (P : PT) (N1 : NTy k0 Pr) : QB Try.prog T0 17 o3 (ret P) k1 (B3 P N1) := fun _ _ _  => by kernel_rfl
abbrev k2 : Sk := [(1,.x),(3,.i .i64),(4,.v),(5,.b)]
noncomputable def o4 := ob Try.f64 [.r,.r,.l,.l,.l,.l,.r,.l]
def B4 (P : PT) (N1 : NTy k0 Pr) (x1 : Nat) (x3 : Int) (x4 : Value) (x5 : Bool) (H : AHeap) : Prop :=
  pif x5 (B3 P N1 x4 H) (B2 P N1 x1 x3 H)
theorem q4 (P : PT) (N1 : NTy k0 Pr) : QB Try.prog T0 17 o4 (cnd 15 (En 17 k1 (B3 P N1)) (En 17 k0 (B2 P N1))) k2 (B4 P N1) := fun _ _ _ _ _ _  => by kernel_rfl
noncomputable def o5 := ob Try.f64 [.r,.r,.l,.l,.l,.l,.l]
def B5 (P : PT) (N1 : NTy k0 Pr) (x1 : Nat) (x3 : Int) (H : AHeap) : Prop :=
  ldI .i64 H x1 0 (fun v1 => ld1 H x1 1 (fun v2 => newK H [] 2 (fun b3 H4 => AC Try.prog T0 109 [(Value.agg ⟨[(Value.int .i64 v1), v2]⟩), (Value.int .i64 x3), (Value.int .i64 0), (Value.slice (some ⟨b3, 0, none⟩) 0 (0 + 1))] H4 (fun v5 H6 => tup2 v5 (fun v7 v8 => asB v8 (fun v10 => B4 P N1 x1 x3 v7 v10 H6))))))
theorem q5 (P : PT) (N1 : NTy k0 Pr) : QB Try.prog T0 17 o5 (En 17 k2 (B4 P N1)) k0 (B5 P N1) := fun _ _ _ _  => by kernel_rfl
def L1 (P : PT) (x1 : Nat) (x3 : Int) (H : AHeap) : Prop :=
  ∃ (I : NTy k0 Pr) (μ : NTy k0 (AHeap → Nat)), I x1 x3 H ∧ ∀ y1 y3 G, I y1 y3 G → B5 P (fun z1 z3 G' => I z1 z3 G' ∧ μ z1 z3 G' < μ y1 y3 G) y1 y3 G
theorem l1 (P : PT) : LQ k0 (L1 P) (B5 P) := fun ⟨_,_,_⟩ _ ⟨I, μ, h0, hI⟩ => ⟨apT _ I, apT _ μ, h0, fun ⟨_,_,_⟩ _ h => hI _ _ _  h⟩
abbrev k3 : Sk := [(1,.x)]
noncomputable def o6 := ob Try.f64 [.r,.l]
def B6 (P : PT) (x1 : Nat) (H : AHeap) : Prop :=
  L1 P x1 0 H
theorem q6 (P : PT) : QB Try.prog T0 17 o6 (En 17 k0 (L1 P)) k3 (B6 P) := fun _ _ _  => by kernel_rfl
abbrev k4 : Sk := [(0,.g [.i,.v])]
noncomputable def o7 := ob Try.f64 [.l]
def B7 (P : PT) (x0a : Int) (x0b : Value) (H : AHeap) : Prop :=
  newK H [(Value.int .i64 x0a), x0b] 32 (fun b1 H2 => B6 P b1 H2)
theorem q7 (P : PT) : QB Try.prog T0 17 o7 (En 17 k3 (B6 P)) k4 (B7 P) := fun _ _ _ _  => by kernel_rfl
noncomputable def code : Code := (.seq (.region 0 ⟨o7⟩ false) (.seq (.region 1 ⟨o6⟩ false) (.block 0 (.loop (.seq (.block 1 (.seq (.region 3 ⟨o5⟩ false) (.seq (.region 4 ⟨o4⟩ false) (.cond (.tmp 15) (.seq (.region 5 ⟨o3⟩ false) .ret) .skip)))) (.region 2 ⟨o2⟩ false))))))
theorem body : Try.f64.body = some code := by kernel_rfl
theorem main (P : PT) : ∀ env H, (En 17 k4 (B7 P)) env H → AW Try.prog T0 code env H (mkQ (ret P) (fun _ _ _ => False) (ret P)) :=
  (r_seq (rB T0_ok (q7 P)) (r_seq (rB T0_ok (q6 P)) (r_block (rL (l1 P) (fun N1 => (r_seq (r_block (r_seq (rB T0_ok (q5 P N1)) (r_seq (rB T0_ok (q4 P N1)) (r_cond rfl (r_seq (rB T0_ok (q3 P N1)) r_ret) r_skip)))) (rB T0_ok (q2 P N1))))))))
theorem ac (P : PT) (x0a : Int) (x0b : Value) (H : AHeap) (h : B7 P x0a x0b H) : AC Try.prog T0 64 [(Value.agg ⟨[(Value.int .i64 x0a), x0b]⟩)] H P :=
  r_fn T0_ok (c := code) (n := 17) Try.func64 body (by kernel_rfl) (main P) (En_mk (x0a, x0b, ()) (by kernel_rfl) ⟨by kernel_rfl, trivial⟩ h)

end F64
-- loop.example/g01329/impl.smallCode
namespace F65
noncomputable def ret (P : PT) : EP := retE T0 18 Try.f65 P
abbrev k0 : Sk := []
noncomputable def o1 := ob Try.f65 [.r,.r,.r,.l]
def B1 (P : PT) (H : AHeap) : Prop :=
  P (Value.int .i64 0) H
theorem q1 (P : PT) : QB Try.prog T0 18 o1 (ret P) k0 (B1 P) := fun _ _  => by kernel_rfl
noncomputable def o2 := ob Try.f65 [.r,.r,.l,.r,.l,.l]
def B2 (P : PT) (H : AHeap) : Prop :=
  P (Value.int .i64 3) H
theorem q2 (P : PT) : QB Try.prog T0 18 o2 (ret P) k0 (B2 P) := fun _ _  => by kernel_rfl
abbrev k1 : Sk := [(2,.i .i64),(3,.x)]
noncomputable def o3 := ob Try.f65 [.r,.r,.l,.l]
def B3 (P : PT) (x2 : Int) (x3 : Nat) (H : AHeap) : Prop :=
  ldI .i64 H x3 0 (fun v1 => pif (decide ((v1 : Int) > x2)) (B2 P H) (B1 P H))
theorem q3 (P : PT) : QB Try.prog T0 18 o3 (cnd 17 (En 18 k0 (B2 P)) (En 18 k0 (B1 P))) k1 (B3 P) := fun _ _ _ _  => by kernel_rfl
abbrev k2 : Sk := [(7,.i .i64)]
noncomputable def o4 := ob Try.f65 [.r,.l,.r,.r,.l,.l]
def B4 (P : PT) (x7 : Int) (H : AHeap) : Prop :=
  P (Value.int .i64 x7) H
theorem q4 (P : PT) : QB Try.prog T0 18 o4 (ret P) k2 (B4 P) := fun _ _ _  => by kernel_rfl
abbrev k3 : Sk := [(2,.i .i64),(3,.x),(7,.i .i64)]
noncomputable def o5 := ob Try.f65 [.r,.l,.r,.l]
def B5 (P : PT) (x2 : Int) (x3 : Nat) (x7 : Int) (H : AHeap) : Prop :=
  pif ((x7 : Int) != 0) (B4 P x7 H) (B3 P x2 x3 H)
theorem q5 (P : PT) : QB Try.prog T0 18 o5 (cnd 12 (En 18 k2 (B4 P)) (En 18 k1 (B3 P))) k3 (B5 P) := fun _ _ _ _ _  => by kernel_rfl
abbrev k4 : Sk := [(1,.b),(2,.i .i64),(3,.x)]
noncomputable def o6 := ob Try.f65 [.r,.l,.l]
def B6 (P : PT) (x1 : Bool) (x2 : Int) (x3 : Nat) (H : AHeap) : Prop :=
  ldI .i64 H x3 0 (fun v1 => ld1 H x3 1 (fun v2 => AC Try.prog T0 52 [(Value.agg ⟨[(Value.int .i64 v1), v2]⟩), (Value.bool x1)] H (fun v3 H4 => asI .i64 v3 (fun v5 => B5 P x2 x3 v5 H4))))
theorem q6 (P : PT) : QB Try.prog T0 18 o6 (En 18 k3 (B5 P)) k4 (B6 P) := fun _ _ _ _ _  => by kernel_rfl
abbrev k5 : Sk := [(0,.g [.i,.v]),(1,.b),(2,.i .i64)]
noncomputable def o7 := ob Try.f65 [.l]
def B7 (P : PT) (x0a : Int) (x0b : Value) (x1 : Bool) (x2 : Int) (H : AHeap) : Prop :=
  newK H [(Value.int .i64 x0a), x0b] 32 (fun b1 H2 => B6 P x1 x2 b1 H2)
theorem q7 (P : PT) : QB Try.prog T0 18 o7 (En 18 k4 (B6 P)) k5 (B7 P) := fun _ _ _ _ _ _  => by kernel_rfl
noncomputable def code : Code := (.seq (.region 0 ⟨o7⟩ false) (.seq (.seq (.region 1 ⟨o6⟩ false) (.seq (.region 2 ⟨o5⟩ false) (.cond (.tmp 12) (.seq (.region 3 ⟨o4⟩ false) .ret) .skip))) (.seq (.seq (.region 4 ⟨o3⟩ false) (.cond (.tmp 17) (.seq (.region 5 ⟨o2⟩ false) .ret) .skip)) (.seq (.region 6 ⟨o1⟩ false) .ret))))
theorem body : Try.f65.body = some code := by kernel_rfl
theorem main (P : PT) : ∀ env H, (En 18 k5 (B7 P)) env H → AW Try.prog T0 code env H (mkQ (ret P) (fun _ _ _ => False) (ret P)) :=
  (r_seq (rB T0_ok (q7 P)) (r_seq (r_seq (rB T0_ok (q6 P)) (r_seq (rB T0_ok (q5 P)) (r_cond rfl (r_seq (rB T0_ok (q4 P)) r_ret) r_skip))) (r_seq (r_seq (rB T0_ok (q3 P)) (r_cond rfl (r_seq (rB T0_ok (q2 P)) r_ret) r_skip)) (r_seq (rB T0_ok (q1 P)) r_ret))))
theorem ac (P : PT) (x0a : Int) (x0b : Value) (x1 : Bool) (x2 : Int) (H : AHeap) (h : B7 P x0a x0b x1 x2 H) : AC Try.prog T0 65 [(Value.agg ⟨[(Value.int .i64 x0a), x0b]⟩), (Value.bool x1), (Value.int .i64 x2)] H P :=
  r_fn T0_ok (c := code) (n := 18) Try.func65 body (by kernel_rfl) (main P) (En_mk (x0a, x0b, x1, x2, ()) (by kernel_rfl) ⟨by kernel_rfl, by kernel_rfl, by kernel_rfl, trivial⟩ h)

end F65
-- (loop.example/g01329/impl.Graph).weak
namespace F66
noncomputable def ret (P : PT) : EP := retE T0 14 Try.f66 P
abbrev k0 : Sk := [(1,.x),(3,.x),(4,.i .i64)]
noncomputable def o2 := ob Try.f66 [.r,.r,.r,.l,.l,.r]
def B2 (P : PT) (N1 : NTy k0 Pr) (x1 x3 : Nat) (x4 : Int) (H : AHeap) : Prop :=
  N1 x1 x3 (IntKind.i64.wrap (x4 + 1)) H
theorem q2 (P : PT) (N1 : NTy k0 Pr) : QB Try.prog T0 14 o2 (En 14 k0 N1) k0 (B2 P N1) := fun _ _ _ _ _  => by kernel_rfl
abbrev k1 : Sk := [(3,.x)]
noncomputable def o3 := ob Try.f66 [.r,.r,.r,.l,.l,.l,.l,.r,.l,.l]
def B3 (P : PT) (N1 : NTy k0 Pr) (x3 : Nat) (H : AHeap) : Prop :=
  ldI .u64 H x3 0 (fun v1 => P (Value.int .u64 v1) H)
theorem q3 (P : PT) (N1 : NTy k0 Pr) : QB Try.prog T0 14 o3 (ret P) k1 (B3 P N1) := fun _ _ _  => by kernel_rfl
noncomputable def o4 := ob Try.f66 [.r,.r,.r,.l,.l,.l,.l,.l]
def B4 (P : PT) (N1 : NTy k0 Pr) (x1 x3 : Nat) (x4 : Int) (H : AHeap) : Prop :=
  ld1 H x1 1 (fun v1 => AC Try.prog T0 85 [v1] H (fun v2 H3 => asI .i64 v2 (fun v4 => AC Try.prog T0 84 [(Value.int .i64 v4), (Value.int .i64 x4), (Value.func (.func 110) ⟨[]⟩ ⟨[(Value.pointer (some ⟨x3, 0, none⟩)), (Value.pointer (some ⟨x1, 0, none⟩))]⟩)] H3 (fun v5 H6 => asB v5 (fun v7 => pif v7 (B3 P N1 x3 H6) (B2 P N1 x1 x3 x4 H6))))))
theorem q4 (P : PT) (N1 : NTy k0 Pr) : QB Try.prog T0 14 o4 (cnd 12 (En 14 k1 (B3 P N1)) (En 14 k0 (B2 P N1))) k0 (B4 P N1) := fun _ _ _ _ _  => by kernel_rfl
def L1 (P : PT) (x1 x3 : Nat) (x4 : Int) (H : AHeap) : Prop :=
  ∃ (I : NTy k0 Pr) (μ : NTy k0 (AHeap → Nat)), I x1 x3 x4 H ∧ ∀ y1 y3 y4 G, I y1 y3 y4 G → B4 P (fun z1 z3 z4 G' => I z1 z3 z4 G' ∧ μ z1 z3 z4 G' < μ y1 y3 y4 G) y1 y3 y4 G
theorem l1 (P : PT) : LQ k0 (L1 P) (B4 P) := fun ⟨_,_,_,_⟩ _ ⟨I, μ, h0, hI⟩ => ⟨apT _ I, apT _ μ, h0, fun ⟨_,_,_,_⟩ _ h => hI _ _ _ _  h⟩
abbrev k2 : Sk := [(1,.x),(3,.x)]
noncomputable def o5 := ob Try.f66 [.r,.r,.l]
def B5 (P : PT) (x1 x3 : Nat) (H : AHeap) : Prop :=
  L1 P x1 x3 0 H
theorem q5 (P : PT) : QB Try.prog T0 14 o5 (En 14 k0 (L1 P)) k2 (B5 P) := fun _ _ _ _  => by kernel_rfl
abbrev k3 : Sk := [(1,.x)]
noncomputable def o6 := ob Try.f66 [.r,.l]
def B6 (P : PT) (x1 : Nat) (H : AHeap) : Prop :=
  newK H [(Value.int .u64 0)] 72 (fun b1 H2 => B5 P x1 b1 H2)
theorem q6 (P : PT) : QB Try.prog T0 14 o6 (En 14 k2 (B5 P)) k3 (B6 P) := fun _ _ _  => by kernel_rfl
abbrev k4 : Sk := [(0,.g [.i,.v])]
noncomputable def o7 := ob Try.f66 [.l]
def B7 (P : PT) (x0a : Int) (x0b : Value) (H : AHeap) : Prop :=
  newK H [(Value.int .i64 x0a), x0b] 32 (fun b1 H2 => B6 P b1 H2)
theorem q7 (P : PT) : QB Try.prog T0 14 o7 (En 14 k3 (B6 P)) k4 (B7 P) := fun _ _ _ _  => by kernel_rfl
noncomputable def code : Code := (.seq (.region 0 ⟨o7⟩ false) (.seq (.region 1 ⟨o6⟩ false) (.seq (.region 2 ⟨o5⟩ false) (.block 0 (.loop (.seq (.block 1 (.seq (.region 4 ⟨o4⟩ false) (.cond (.tmp 12) (.seq (.region 5 ⟨o3⟩ false) .ret) .skip))) (.region 3 ⟨o2⟩ false)))))))
theorem body : Try.f66.body = some code := by kernel_rfl
theorem main (P : PT) : ∀ env H, (En 14 k4 (B7 P)) env H → AW Try.prog T0 code env H (mkQ (ret P) (fun _ _ _ => False) (ret P)) :=
  (r_seq (rB T0_ok (q7 P)) (r_seq (rB T0_ok (q6 P)) (r_seq (rB T0_ok (q5 P)) (r_block (rL (l1 P) (fun N1 => (r_seq (r_block (r_seq (rB T0_ok (q4 P N1)) (r_cond rfl (r_seq (rB T0_ok (q3 P N1)) r_ret) r_skip))) (rB T0_ok (q2 P N1)))))))))
theorem ac (P : PT) (x0a : Int) (x0b : Value) (H : AHeap) (h : B7 P x0a x0b H) : AC Try.prog T0 66 [(Value.agg ⟨[(Value.int .i64 x0a), x0b]⟩)] H P :=
  r_fn T0_ok (c := code) (n := 14) Try.func66 body (by kernel_rfl) (main P) (En_mk (x0a, x0b, ()) (by kernel_rfl) ⟨by kernel_rfl, trivial⟩ h)

end F66
-- (loop.example/g01329/impl.set).size
namespace F67
noncomputable def ret (P : PT) : EP := retE T0 5 Try.f67 P
abbrev k0 : Sk := [(0,.i .u64)]
noncomputable def o1 := ob Try.f67 [.r,.l]
def B1 (P : PT) (x0 : Int) (H : AHeap) : Prop :=
  AC Try.prog T0 112 [(Value.int .u64 x0)] H (fun v1 H2 => asI .i64 v1 (fun v3 => P (Value.int .i64 v3) H2))
theorem q1 (P : PT) : QB Try.prog T0 5 o1 (ret P) k0 (B1 P) := fun _ _ _  => by kernel_rfl
noncomputable def o2 := ob Try.f67 [.l]
def B2 (P : PT) (x0 : Int) (H : AHeap) : Prop :=
  B1 P x0 H
theorem q2 (P : PT) : QB Try.prog T0 5 o2 (En 5 k0 (B1 P)) k0 (B2 P) := fun _ _ _  => by kernel_rfl
noncomputable def code : Code := (.seq (.region 0 ⟨o2⟩ false) (.seq (.region 1 ⟨o1⟩ false) .ret))
theorem body : Try.f67.body = some code := by kernel_rfl
theorem main (P : PT) : ∀ env H, (En 5 k0 (B2 P)) env H → AW Try.prog T0 code env H (mkQ (ret P) (fun _ _ _ => False) (ret P)) :=
  (r_seq (rB T0_ok (q2 P)) (r_seq (rB T0_ok (q1 P)) r_ret))
theorem ac (P : PT) (x0 : Int) (H : AHeap) (h : B2 P x0 H) : AC Try.prog T0 67 [(Value.int .u64 x0)] H P :=
  r_fn T0_ok (c := code) (n := 5) Try.func67 body (by kernel_rfl) (main P) (En_mk (x0, ()) (by kernel_rfl) ⟨by kernel_rfl, trivial⟩ h)

end F67
-- (loop.example/g01329/impl.set).list
namespace F73
noncomputable def ret (P : PT) : EP := retE T0 19 Try.f73 P
abbrev k0 : Sk := [(3,.v)]
noncomputable def o1 := ob Try.f73 [.r,.r,.r,.l]
def B1 (P : PT) (x3 : Value) (H : AHeap) : Prop :=
  P x3 H
theorem q1 (P : PT) : QB Try.prog T0 19 o1 (ret P) k0 (B1 P) := fun _ _ _  => by kernel_rfl
abbrev k1 : Sk := [(0,.i .u64),(3,.v),(4,.i .i64)]
noncomputable def o3 := ob Try.f73 [.r,.r,.l,.r,.l,.l,.r,.r]
def B3 (P : PT) (N2 : NTy k1 Pr) (x0 : Int) (x3 : Value) (x4 : Int) (H : AHeap) : Prop :=
  N2 x0 x3 (IntKind.i64.wrap (x4 + 1)) H
theorem q3 (P : PT) (N2 : NTy k1 Pr) : QB Try.prog T0 19 o3 (En 19 k1 N2) k1 (B3 P N2) := fun _ _ _ _ _  => by kernel_rfl
noncomputable def o4 := ob Try.f73 [.r,.r,.l,.r,.l,.l,.r,.l,.l,.r,.l]
def B4 (P : PT) (N2 : NTy k1 Pr) (x0 : Int) (x3 : Value) (x4 : Int) (H : AHeap) : Prop :=
  newK H [(Value.int .i64 x4)] 2 (fun b1 H2 => apK T0 2 H2 x3 (Value.slice (some ⟨b1, 0, none⟩) 1 (1 + 1)) (fun v3 H4 => B3 P N2 x0 v3 x4 H4))
theorem q4 (P : PT) (N2 : NTy k1 Pr) : QB Try.prog T0 19 o4 (En 19 k1 (B3 P N2)) k1 (B4 P N2) := fun _ _ _ _ _  => by kernel_rfl
noncomputable def o5 := ob Try.f73 [.r,.r,.l,.r,.l,.l,.r,.l,.l,.l]
def B5 (P : PT) (N2 : NTy k1 Pr) (x0 : Int) (x3 : Value) (x4 : Int) (H : AHeap) : Prop :=
  AC Try.prog T0 102 [(Value.int .u64 x0), (Value.int .i64 x4)] H (fun v1 H2 => asB v1 (fun v3 => pif v3 (B4 P N2 x0 x3 x4 H2) (B3 P N2 x0 x3 x4 H2)))
theorem q5 (P : PT) (N2 : NTy k1 Pr) : QB Try.prog T0 19 o5 (cnd 13 (En 19 k1 (B4 P N2)) (En 19 k1 (B3 P N2))) k1 (B5 P N2) := fun _ _ _ _ _  => by kernel_rfl
noncomputable def o6 := ob Try.f73 [.r,.r,.l,.r,.l,.l,.l,.l]
def B6 (P : PT) (N2 : NTy k1 Pr) (x0 : Int) (x3 : Value) (x4 : Int) (H : AHeap) : Prop :=
  ((0 : Int) ≤ x4) ∧ (pif ((Int.fdiv x0 (2 ^ (min (Int.toNat x4) 64)) : Int) != 0) (B5 P N2 x0 x3 x4 H) (B1 P x3 H))
theorem q6 (P : PT) (N2 : NTy k1 Pr) : QB Try.prog T0 19 o6 (cnd 8 (En 19 k1 (B5 P N2)) (En 19 k0 (B1 P))) k1 (B6 P N2) := fun _ _ _ _ _  => by kernel_rfl
def L2 (P : PT) (x0 : Int) (x3 : Value) (x4 : Int) (H : AHeap) : Prop :=
  ∃ (I : NTy k1 Pr) (μ : NTy k1 (AHeap → Nat)), I x0 x3 x4 H ∧ ∀ y0 y3 y4 G, I y0 y3 y4 G → B6 P (fun z0 z3 z4 G' => I z0 z3 z4 G' ∧ μ z0 z3 z4 G' < μ y0 y3 y4 G) y0 y3 y4 G
theorem l2 (P : PT) : LQ k1 (L2 P) (B6 P) := fun ⟨_,_,_,_⟩ _ ⟨I, μ, h0, hI⟩ => ⟨apT _ I, apT _ μ, h0, fun ⟨_,_,_,_⟩ _ h => hI _ _ _ _  h⟩
abbrev k2 : Sk := [(0,.i .u64),(3,.v)]
noncomputable def o7 := ob Try.f73 [.r,.r,.l,.l]
def B7 (P : PT) (x0 : Int) (x3 : Value) (H : AHeap) : Prop :=
  L2 P x0 x3 0 H
theorem q7 (P : PT) : QB Try.prog T0 19 o7 (En 19 k1 (L2 P)) k2 (B7 P) := fun _ _ _ _  => by kernel_rfl
abbrev k3 : Sk := [(0,.i .u64)]
noncomputable def o8 := ob Try.f73 [.r,.l]
def B8 (P : PT) (x0 : Int) (H : AHeap) : Prop :=
  B7 P x0 (Value.slice none 0 0) H
theorem q8 (P : PT) : QB Try.prog T0 19 o8 (En 19 k2 (B7 P)) k3 (B8 P) := fun _ _ _  => by kernel_rfl
noncomputable def o9 := ob Try.f73 [.l]
def B9 (P : PT) (x0 : Int) (H : AHeap) : Prop :=
  B8 P x0 H
theorem q9 (P : PT) : QB Try.prog T0 19 o9 (En 19 k3 (B8 P)) k3 (B9 P) := fun _ _ _  => by kernel_rfl
noncomputable def code : Code := (.seq (.region 0 ⟨o9⟩ false) (.seq (.region 1 ⟨o8⟩ false) (.seq (.seq (.region 2 ⟨o7⟩ false) (.block 0 (.loop (.seq (.seq (.region 3 ⟨o6⟩ false) (.cond (.tmp 8) .skip (.exit 0))) (.seq (.block 1 (.seq (.region 5 ⟨o5⟩ false) (.cond (.tmp 13) (.region 6 ⟨o4⟩ false) .skip))) (.region 4 ⟨o3⟩ false)))))) (.seq (.region 7 ⟨o1⟩ false) .ret))))
theorem body : Try.f73.body = some code := by kernel_rfl
theorem main (P : PT) : ∀ env H, (En 19 k3 (B9 P)) env H → AW Try.prog T0 code env H (mkQ (ret P) (fun _ _ _ => False) (ret P)) :=
  (r_seq (rB T0_ok (q9 P)) (r_seq (rB T0_ok (q8 P)) (r_seq (r_seq (rB T0_ok (q7 P)) (r_block (rL (l2 P) (fun N2 => (r_seq (r_seq (rB T0_ok (q6 P N2)) (r_cond rfl r_skip (r_exit (fun _ _ h => h)))) (r_seq (r_block (r_seq (rB T0_ok (q5 P N2)) (r_cond rfl (rB T0_ok (q4 P N2)) r_skip))) (rB T0_ok (q3 P N2)))))))) (r_seq (rB T0_ok (q1 P)) r_ret))))
theorem ac (P : PT) (x0 : Int) (H : AHeap) (h : B9 P x0 H) : AC Try.prog T0 73 [(Value.int .u64 x0)] H P :=
  r_fn T0_ok (c := code) (n := 19) Try.func73 body (by kernel_rfl) (main P) (En_mk (x0, ()) (by kernel_rfl) ⟨by kernel_rfl, trivial⟩ h)

end F73
-- loop.example/g01329/impl.within
namespace F83
noncomputable def ret (P : PT) : EP := retE T0 15 Try.f83 P
abbrev k0 : Sk := [(0,.i .i64),(1,.i .i64),(2,.i .i64)]
noncomputable def o1 := ob Try.f83 [.r,.l]
def B1 (P : PT) (x0 x1 x2 : Int) (H : AHeap) : Prop :=
  pif (decide ((x1 : Int) ≤ x0)) (P (Value.bool (decide ((x0 : Int) ≤ x2))) H) (P (Value.bool false) H)
theorem q1 (P : PT) : QB Try.prog T0 15 o1 (ret P) k0 (B1 P) := fun _ _ _ _ _  => by kernel_rfl
noncomputable def o2 := ob Try.f83 [.l]
def B2 (P : PT) (x0 x1 x2 : Int) (H : AHeap) : Prop :=
  B1 P x0 x1 x2 H
theorem q2 (P : PT) : QB Try.prog T0 15 o2 (En 15 k0 (B1 P)) k0 (B2 P) := fun _ _ _ _ _  => by kernel_rfl
noncomputable def code : Code := (.seq (.region 0 ⟨o2⟩ false) (.seq (.region 1 ⟨o1⟩ false) .ret))
theorem body : Try.f83.body = some code := by kernel_rfl
theorem main (P : PT) : ∀ env H, (En 15 k0 (B2 P)) env H → AW Try.prog T0 code env H (mkQ (ret P) (fun _ _ _ => False) (ret P)) :=
  (r_seq (rB T0_ok (q2 P)) (r_seq (rB T0_ok (q1 P)) r_ret))
theorem ac (P : PT) (x0 x1 x2 : Int) (H : AHeap) (h : B2 P x0 x1 x2 H) : AC Try.prog T0 83 [(Value.int .i64 x0), (Value.int .i64 x1), (Value.int .i64 x2)] H P :=
  r_fn T0_ok (c := code) (n := 15) Try.func83 body (by kernel_rfl) (main P) (En_mk (x0, x1, x2, ()) (by kernel_rfl) ⟨by kernel_rfl, by kernel_rfl, by kernel_rfl, trivial⟩ h)

end F83
-- loop.example/g01329/impl.choose
namespace F84
noncomputable def ret (P : PT) : EP := retE T0 12 Try.f84 P
abbrev k0 : Sk := [(1,.i .i64),(7,.x)]
noncomputable def o1 := ob Try.f84 [.r,.r,.r,.l]
def B1 (P : PT) (x1 : Int) (x7 : Nat) (H : AHeap) : Prop :=
  ld1 H x7 0 (fun v1 => callV Try.prog T0 v1 [(Value.int .u64 0), (Value.int .i64 0), (Value.int .i64 x1)] H (fun v2 H3 => asB v2 (fun v4 => P (Value.bool v4) H3)))
theorem q1 (P : PT) : QB Try.prog T0 12 o1 (ret P) k0 (B1 P) := fun _ _ _ _  => by kernel_rfl
abbrev k1 : Sk := [(1,.i .i64),(3,.x),(5,.x),(7,.x)]
noncomputable def o2 := ob Try.f84 [.r,.r,.l]
def B2 (P : PT) (x1 : Int) (x3 x5 x7 : Nat) (H : AHeap) : Prop :=
  stK H x7 0 [(Value.func (.func 127) ⟨[]⟩ ⟨[(Value.pointer (some ⟨x5, 0, none⟩)), (Value.pointer (some ⟨x3, 0, none⟩)), (Value.pointer (some ⟨x7, 0, none⟩))]⟩)] (fun H1 => B1 P x1 x7 H1)
theorem q2 (P : PT) : QB Try.prog T0 12 o2 (En 12 k0 (B1 P)) k1 (B2 P) := fun _ _ _ _ _ _  => by kernel_rfl
abbrev k2 : Sk := [(1,.i .i64),(3,.x),(5,.x)]
noncomputable def o3 := ob Try.f84 [.r,.l]
def B3 (P : PT) (x1 : Int) (x3 x5 : Nat) (H : AHeap) : Prop :=
  newK H [Value.nilFunc] 128 (fun b1 H2 => B2 P x1 x3 x5 b1 H2)
theorem q3 (P : PT) : QB Try.prog T0 12 o3 (En 12 k1 (B2 P)) k2 (B3 P) := fun _ _ _ _ _  => by kernel_rfl
abbrev k3 : Sk := [(0,.i .i64),(1,.i .i64),(2,.v)]
noncomputable def o4 := ob Try.f84 [.l]
def B4 (P : PT) (x0 x1 : Int) (x2 : Value) (H : AHeap) : Prop :=
  newK H [(Value.int .i64 x0)] 2 (fun b1 H2 => pif (Value.oneCell' x2) (newK H2 [x2] 80 (fun b3 H4 => B3 P x1 b1 b3 H4)) False)
theorem q4 (P : PT) : QB Try.prog T0 12 o4 (En 12 k2 (B3 P)) k3 (B4 P) := fun _ _ _ _ _  => by kernel_rfl
noncomputable def code : Code := (.seq (.region 0 ⟨o4⟩ false) (.seq (.region 1 ⟨o3⟩ false) (.seq (.region 2 ⟨o2⟩ false) (.seq (.region 3 ⟨o1⟩ false) .ret))))
theorem body : Try.f84.body = some code := by kernel_rfl
theorem main (P : PT) : ∀ env H, (En 12 k3 (B4 P)) env H → AW Try.prog T0 code env H (mkQ (ret P) (fun _ _ _ => False) (ret P)) :=
  (r_seq (rB T0_ok (q4 P)) (r_seq (rB T0_ok (q3 P)) (r_seq (rB T0_ok (q2 P)) (r_seq (rB T0_ok (q1 P)) r_ret))))
theorem ac (P : PT) (x0 x1 : Int) (x2 : Value) (H : AHeap) (h : B4 P x0 x1 x2 H) : AC Try.prog T0 84 [(Value.int .i64 x0), (Value.int .i64 x1), x2] H P :=
  r_fn T0_ok (c := code) (n := 12) Try.func84 body (by kernel_rfl) (main P) (En_mk (x0, x1, x2, ()) (by kernel_rfl) ⟨by kernel_rfl, by kernel_rfl, by kernel_rfl, trivial⟩ h)

end F84
-- loop.example/g01329/impl.length[loop.example/g01329/impl.Edge]
namespace F85
noncomputable def ret (P : PT) : EP := retE T0 5 Try.f85 P
abbrev k0 : Sk := [(0,.v)]
noncomputable def o1 := ob Try.f85 [.r,.l]
def B1 (P : PT) (x0 : Value) (H : AHeap) : Prop :=
  lenK x0 (fun n1 => P (Value.int .i64 (n1 : Int)) H)
theorem q1 (P : PT) : QB Try.prog T0 5 o1 (ret P) k0 (B1 P) := fun _ _ _  => by kernel_rfl
noncomputable def o2 := ob Try.f85 [.l]
def B2 (P : PT) (x0 : Value) (H : AHeap) : Prop :=
  B1 P x0 H
theorem q2 (P : PT) : QB Try.prog T0 5 o2 (En 5 k0 (B1 P)) k0 (B2 P) := fun _ _ _  => by kernel_rfl
noncomputable def code : Code := (.seq (.region 0 ⟨o2⟩ false) (.seq (.region 1 ⟨o1⟩ false) .ret))
theorem body : Try.f85.body = some code := by kernel_rfl
theorem main (P : PT) : ∀ env H, (En 5 k0 (B2 P)) env H → AW Try.prog T0 code env H (mkQ (ret P) (fun _ _ _ => False) (ret P)) :=
  (r_seq (rB T0_ok (q2 P)) (r_seq (rB T0_ok (q1 P)) r_ret))
theorem ac (P : PT) (x0 : Value) (H : AHeap) (h : B2 P x0 H) : AC Try.prog T0 85 [x0] H P :=
  r_fn T0_ok (c := code) (n := 5) Try.func85 body (by kernel_rfl) (main P) (En_mk (x0, ()) (by kernel_rfl) ⟨by kernel_rfl, trivial⟩ h)

end F85
-- loop.example/g01329/spec.l01Ends
namespace F94
noncomputable def ret (P : PT) : EP := retE T0 61 Try.f94 P
abbrev k0 : Sk := []
noncomputable def o1 := ob Try.f94 [.r,.r,.r,.l]
def B1 (P : PT) (H : AHeap) : Prop :=
  P (Value.int .i64 0) H
theorem q1 (P : PT) : QB Try.prog T0 61 o1 (ret P) k0 (B1 P) := fun _ _  => by kernel_rfl
abbrev k1 : Sk := [(0,.i .i64),(1,.v),(5,.i .i64)]
noncomputable def o3 := ob Try.f94 [.r,.r,.l,.r,.l,.l,.r,.r]
def B3 (P : PT) (N2 : NTy k1 Pr) (x0 : Int) (x1 : Value) (x5 : Int) (H : AHeap) : Prop :=
  N2 x0 x1 (IntKind.i64.wrap (x5 + 1)) H
theorem q3 (P : PT) (N2 : NTy k1 Pr) : QB Try.prog T0 61 o3 (En 61 k1 N2) k1 (B3 P N2) := fun _ _ _ _ _  => by kernel_rfl
noncomputable def o4 := ob Try.f94 [.r,.r,.l,.r,.l,.l,.r,.l,.l,.r,.l,.l]
def B4 (P : PT) (N2 : NTy k1 Pr) (H : AHeap) : Prop :=
  P (Value.int .i64 2) H
theorem q4 (P : PT) (N2 : NTy k1 Pr) : QB Try.prog T0 61 o4 (ret P) k0 (B4 P N2) := fun _ _  => by kernel_rfl
noncomputable def o5 := ob Try.f94 [.r,.r,.l,.r,.l,.l,.r,.l,.l,.l]
def B5 (P : PT) (N2 : NTy k1 Pr) (x0 : Int) (x1 : Value) (x5 : Int) (H : AHeap) : Prop :=
  idxK x1 x5 2 (fun b1 o2 => ldI .i64 H b1 o2 (fun v3 => AC Try.prog T0 48 [(Value.int .i64 v3), (Value.int .i64 0), (Value.int .i64 (IntKind.i64.wrap (x0 - 1)))] H (fun v4 H5 => asB v4 (fun v6 => pif (!v6) (B4 P N2 H5) (idxK x1 x5 2 (fun b7 o8 => ldI .i64 H5 b7 (o8 + 1) (fun v9 => AC Try.prog T0 48 [(Value.int .i64 v9), (Value.int .i64 0), (Value.int .i64 (IntKind.i64.wrap (x0 - 1)))] H5 (fun v10 H11 => asB v10 (fun v12 => pif (!v12) (B4 P N2 H11) (idxK x1 x5 2 (fun b13 o14 => ldI .i64 H11 b13 o14 (fun v15 => idxK x1 x5 2 (fun b16 o17 => ldI .i64 H11 b16 (o17 + 1) (fun v18 => pif ((v15 : Int) == v18) (B4 P N2 H11) (B3 P N2 x0 x1 x5 H11)))))))))))))))
theorem q5 (P : PT) (N2 : NTy k1 Pr) : QD Try.prog T0 61 o5 [(0, false), (1, false), (2, false), (3, false), (4, false), (5, false), (6, false), (7, false), (8, false), (9, false), (10, false), (11, false), (12, false), (13, false), (14, false), (15, false), (16, false), (17, false), (18, false), (19, false), (20, false), (21, false), (22, false), (23, false), (24, false), (25, false), (26, false), (27, false), (28, false), (29, false), (30, false), (31, false), (32, false)] (cnd 60 (En 61 k0 (B4 P N2)) (En 61 k1 (B3 P N2))) k1 (B5 P N2) := fun _ _ _ _ _  => by kernel_rfl
noncomputable def o6 := ob Try.f94 [.r,.r,.l,.r,.l,.l,.l,.l]
def B6 (P : PT) (N2 : NTy k1 Pr) (x0 : Int) (x1 : Value) (x5 : Int) (H : AHeap) : Prop :=
  lenK x1 (fun n1 => pif (decide ((x5 : Int) < (n1 : Int))) (B5 P N2 x0 x1 x5 H) (B1 P H))
theorem q6 (P : PT) (N2 : NTy k1 Pr) : QB Try.prog T0 61 o6 (cnd 25 (En 61 k1 (B5 P N2)) (En 61 k0 (B1 P))) k1 (B6 P N2) := fun _ _ _ _ _  => by kernel_rfl
def L2 (P : PT) (x0 : Int) (x1 : Value) (x5 : Int) (H : AHeap) : Prop :=
  ∃ (I : NTy k1 Pr) (μ : NTy k1 (AHeap → Nat)), I x0 x1 x5 H ∧ ∀ y0 y1 y5 G, I y0 y1 y5 G → B6 P (fun z0 z1 z5 G' => I z0 z1 z5 G' ∧ μ z0 z1 z5 G' < μ y0 y1 y5 G) y0 y1 y5 G
theorem l2 (P : PT) : LQ k1 (L2 P) (B6 P) := fun ⟨_,_,_,_⟩ _ ⟨I, μ, h0, hI⟩ => ⟨apT _ I, apT _ μ, h0, fun ⟨_,_,_,_⟩ _ h => hI _ _ _ _  h⟩
abbrev k2 : Sk := [(0,.i .i64),(1,.v)]
noncomputable def o7 := ob Try.f94 [.r,.r,.l,.l]
def B7 (P : PT) (x0 : Int) (x1 : Value) (H : AHeap) : Prop :=
  L2 P x0 x1 0 H
theorem q7 (P : PT) : QB Try.prog T0 61 o7 (En 61 k1 (L2 P)) k2 (B7 P) := fun _ _ _ _  => by kernel_rfl
noncomputable def o8 := ob Try.f94 [.r,.l,.r,.l,.l]
def B8 (P : PT) (H : AHeap) : Prop :=
  P (Value.int .i64 2) H
theorem q8 (P : PT) : QB Try.prog T0 61 o8 (ret P) k0 (B8 P) := fun _ _  => by kernel_rfl
noncomputable def o9 := ob Try.f94 [.r,.l,.l]
def B9 (P : PT) (x0 : Int) (x1 : Value) (H : AHeap) : Prop :=
  AC Try.prog T0 48 [(Value.int .i64 x0), (Value.int .i64 2), (Value.int .i64 20)] H (fun v1 H2 => asB v1 (fun v3 => pif (!v3) (B8 P H2) (pif ((Int.tmod x0 2 : Int) != 0) (B8 P H2) (lenK x1 (fun n4 => pif (((n4 : Int) : Int) != (IntKind.i64.wrap (Int.tdiv (IntKind.i64.wrap (3 * x0)) 2))) (B8 P H2) (B7 P x0 x1 H2))))))
theorem q9 (P : PT) : QB Try.prog T0 61 o9 (cnd 21 (En 61 k0 (B8 P)) (En 61 k2 (B7 P))) k2 (B9 P) := fun _ _ _ _  => by kernel_rfl
noncomputable def o10 := ob Try.f94 [.l]
def B10 (P : PT) (x0 : Int) (x1 : Value) (H : AHeap) : Prop :=
  B9 P x0 x1 H
theorem q10 (P : PT) : QB Try.prog T0 61 o10 (En 61 k2 (B9 P)) k2 (B10 P) := fun _ _ _ _  => by kernel_rfl
noncomputable def code : Code := (.seq (.region 0 ⟨o10⟩ false) (.seq (.seq (.region 1 ⟨o9⟩ false) (.cond (.tmp 21) (.seq (.region 2 ⟨o8⟩ false) .ret) .skip)) (.seq (.seq (.region 3 ⟨o7⟩ false) (.block 0 (.loop (.seq (.seq (.region 4 ⟨o6⟩ false) (.cond (.tmp 25) .skip (.exit 0))) (.seq (.block 1 (.seq (.region 6 ⟨o5⟩ true) (.cond (.tmp 60) (.seq (.region 7 ⟨o4⟩ false) .ret) .skip))) (.region 5 ⟨o3⟩ false)))))) (.seq (.region 8 ⟨o1⟩ false) .ret))))
theorem body : Try.f94.body = some code := by kernel_rfl
theorem main (P : PT) : ∀ env H, (En 61 k2 (B10 P)) env H → AW Try.prog T0 code env H (mkQ (ret P) (fun _ _ _ => False) (ret P)) :=
  (r_seq (rB T0_ok (q10 P)) (r_seq (r_seq (rB T0_ok (q9 P)) (r_cond rfl (r_seq (rB T0_ok (q8 P)) r_ret) r_skip)) (r_seq (r_seq (rB T0_ok (q7 P)) (r_block (rL (l2 P) (fun N2 => (r_seq (r_seq (rB T0_ok (q6 P N2)) (r_cond rfl r_skip (r_exit (fun _ _ h => h)))) (r_seq (r_block (r_seq (rD T0_ok mixed [(0, false), (1, false), (2, false), (3, false), (4, false), (5, false), (6, false), (7, false), (8, false), (9, false), (10, false), (11, false), (12, false), (13, false), (14, false), (15, false), (16, false), (17, false), (18, false), (19, false), (20, false), (21, false), (22, false), (23, false), (24, false), (25, false), (26, false), (27, false), (28, false), (29, false), (30, false), (31, false), (32, false)] (by kernel_rfl) (q5 P N2)) (r_cond rfl (r_seq (rB T0_ok (q4 P N2)) r_ret) r_skip))) (rB T0_ok (q3 P N2)))))))) (r_seq (rB T0_ok (q1 P)) r_ret))))
theorem ac (P : PT) (x0 : Int) (x1 : Value) (H : AHeap) (h : B10 P x0 x1 H) : AC Try.prog T0 94 [(Value.int .i64 x0), x1] H P :=
  r_fn T0_ok (c := code) (n := 61) Try.func94 body (by kernel_rfl) (main P) (En_mk (x0, x1, ()) (by kernel_rfl) ⟨by kernel_rfl, by kernel_rfl, trivial⟩ h)

end F94
-- loop.example/g01329/spec.l01Cubic
namespace F95
noncomputable def ret (P : PT) : EP := retE T0 46 Try.f95 P
abbrev k0 : Sk := []
noncomputable def o1 := ob Try.f95 [.r,.r,.r,.r,.l]
def B1 (P : PT) (H : AHeap) : Prop :=
  P (Value.bool true) H
theorem q1 (P : PT) : QB Try.prog T0 46 o1 (ret P) k0 (B1 P) := fun _ _  => by kernel_rfl
abbrev k1 : Sk := [(0,.i .i64),(5,.v),(7,.i .i64)]
noncomputable def o3 := ob Try.f95 [.r,.r,.r,.l,.r,.l,.l,.r,.r]
def B3 (P : PT) (N2 : NTy k1 Pr) (x0 : Int) (x5 : Value) (x7 : Int) (H : AHeap) : Prop :=
  N2 x0 x5 (IntKind.i64.wrap (x7 + 1)) H
theorem q3 (P : PT) (N2 : NTy k1 Pr) : QB Try.prog T0 46 o3 (En 46 k1 N2) k1 (B3 P N2) := fun _ _ _ _ _  => by kernel_rfl
noncomputable def o4 := ob Try.f95 [.r,.r,.r,.l,.r,.l,.l,.r,.l,.l,.r,.l,.l]
def B4 (P : PT) (N2 : NTy k1 Pr) (H : AHeap) : Prop :=
  P (Value.bool false) H
theorem q4 (P : PT) (N2 : NTy k1 Pr) : QB Try.prog T0 46 o4 (ret P) k0 (B4 P N2) := fun _ _  => by kernel_rfl
noncomputable def o5 := ob Try.f95 [.r,.r,.r,.l,.r,.l,.l,.r,.l,.l,.l]
def B5 (P : PT) (N2 : NTy k1 Pr) (x0 : Int) (x5 : Value) (x7 : Int) (H : AHeap) : Prop :=
  idxK x5 x7 1 (fun b1 o2 => ldI .i64 H b1 o2 (fun v3 => pif ((v3 : Int) != 3) (B4 P N2 H) (B3 P N2 x0 x5 x7 H)))
theorem q5 (P : PT) (N2 : NTy k1 Pr) : QB Try.prog T0 46 o5 (cnd 45 (En 46 k0 (B4 P N2)) (En 46 k1 (B3 P N2))) k1 (B5 P N2) := fun _ _ _ _ _  => by kernel_rfl
noncomputable def o6 := ob Try.f95 [.r,.r,.r,.l,.r,.l,.l,.l,.l]
def B6 (P : PT) (N2 : NTy k1 Pr) (x0 : Int) (x5 : Value) (x7 : Int) (H : AHeap) : Prop :=
  pif (decide ((x7 : Int) < x0)) (B5 P N2 x0 x5 x7 H) (B1 P H)
theorem q6 (P : PT) (N2 : NTy k1 Pr) : QB Try.prog T0 46 o6 (cnd 38 (En 46 k1 (B5 P N2)) (En 46 k0 (B1 P))) k1 (B6 P N2) := fun _ _ _ _ _  => by kernel_rfl
def L2 (P : PT) (x0 : Int) (x5 : Value) (x7 : Int) (H : AHeap) : Prop :=
  ∃ (I : NTy k1 Pr) (μ : NTy k1 (AHeap → Nat)), I x0 x5 x7 H ∧ ∀ y0 y5 y7 G, I y0 y5 y7 G → B6 P (fun z0 z5 z7 G' => I z0 z5 z7 G' ∧ μ z0 z5 z7 G' < μ y0 y5 y7 G) y0 y5 y7 G
theorem l2 (P : PT) : LQ k1 (L2 P) (B6 P) := fun ⟨_,_,_,_⟩ _ ⟨I, μ, h0, hI⟩ => ⟨apT _ I, apT _ μ, h0, fun ⟨_,_,_,_⟩ _ h => hI _ _ _ _  h⟩
abbrev k2 : Sk := [(0,.i .i64),(5,.v)]
noncomputable def o7 := ob Try.f95 [.r,.r,.r,.l,.l]
def B7 (P : PT) (x0 : Int) (x5 : Value) (H : AHeap) : Prop :=
  L2 P x0 x5 0 H
theorem q7 (P : PT) : QB Try.prog T0 46 o7 (En 46 k1 (L2 P)) k2 (B7 P) := fun _ _ _ _  => by kernel_rfl
abbrev k3 : Sk := [(0,.i .i64),(1,.v),(5,.v),(6,.i .i64)]
noncomputable def o9 := ob Try.f95 [.r,.r,.l,.r,.l,.l,.r,.r]
def B9 (P : PT) (N8 : NTy k3 Pr) (x0 : Int) (x1 x5 : Value) (x6 : Int) (H : AHeap) : Prop :=
  N8 x0 x1 x5 (IntKind.i64.wrap (x6 + 1)) H
theorem q9 (P : PT) (N8 : NTy k3 Pr) : QB Try.prog T0 46 o9 (En 46 k3 N8) k3 (B9 P N8) := fun _ _ _ _ _ _  => by kernel_rfl
noncomputable def o10 := ob Try.f95 [.r,.r,.l,.r,.l,.l,.r,.l,.l,.r]
def B10 (P : PT) (N8 : NTy k3 Pr) (x0 : Int) (x1 x5 : Value) (x6 : Int) (H : AHeap) : Prop :=
  idxK x1 x6 2 (fun b1 o2 => ldI .i64 H b1 (o2 + 1) (fun v3 => idxK x5 v3 1 (fun b4 o5 => ldI .i64 H b4 o5 (fun v6 => idxK x5 v3 1 (fun b7 o8 => stK H b7 o8 [(Value.int .i64 (IntKind.i64.wrap (v6 + 1)))] (fun H9 => B9 P N8 x0 x1 x5 x6 H9))))))
theorem q10 (P : PT) (N8 : NTy k3 Pr) : QB Try.prog T0 46 o10 (En 46 k3 (B9 P N8)) k3 (B10 P N8) := fun _ _ _ _ _ _  => by kernel_rfl
noncomputable def o11 := ob Try.f95 [.r,.r,.l,.r,.l,.l,.r,.l,.l,.l]
def B11 (P : PT) (N8 : NTy k3 Pr) (x0 : Int) (x1 x5 : Value) (x6 : Int) (H : AHeap) : Prop :=
  idxK x1 x6 2 (fun b1 o2 => ldI .i64 H b1 o2 (fun v3 => idxK x5 v3 1 (fun b4 o5 => ldI .i64 H b4 o5 (fun v6 => idxK x5 v3 1 (fun b7 o8 => stK H b7 o8 [(Value.int .i64 (IntKind.i64.wrap (v6 + 1)))] (fun H9 => B10 P N8 x0 x1 x5 x6 H9))))))
theorem q11 (P : PT) (N8 : NTy k3 Pr) : QB Try.prog T0 46 o11 (En 46 k3 (B10 P N8)) k3 (B11 P N8) := fun _ _ _ _ _ _  => by kernel_rfl
noncomputable def o12 := ob Try.f95 [.r,.r,.l,.r,.l,.l,.l,.l]
def B12 (P : PT) (N8 : NTy k3 Pr) (x0 : Int) (x1 x5 : Value) (x6 : Int) (H : AHeap) : Prop :=
  lenK x1 (fun n1 => pif (decide ((x6 : Int) < (n1 : Int))) (B11 P N8 x0 x1 x5 x6 H) (B7 P x0 x5 H))
theorem q12 (P : PT) (N8 : NTy k3 Pr) : QB Try.prog T0 46 o12 (cnd 13 (En 46 k3 (B11 P N8)) (En 46 k2 (B7 P))) k3 (B12 P N8) := fun _ _ _ _ _ _  => by kernel_rfl
def L8 (P : PT) (x0 : Int) (x1 x5 : Value) (x6 : Int) (H : AHeap) : Prop :=
  ∃ (I : NTy k3 Pr) (μ : NTy k3 (AHeap → Nat)), I x0 x1 x5 x6 H ∧ ∀ y0 y1 y5 y6 G, I y0 y1 y5 y6 G → B12 P (fun z0 z1 z5 z6 G' => I z0 z1 z5 z6 G' ∧ μ z0 z1 z5 z6 G' < μ y0 y1 y5 y6 G) y0 y1 y5 y6 G
theorem l8 (P : PT) : LQ k3 (L8 P) (B12 P) := fun ⟨_,_,_,_,_⟩ _ ⟨I, μ, h0, hI⟩ => ⟨apT _ I, apT _ μ, h0, fun ⟨_,_,_,_,_⟩ _ h => hI _ _ _ _ _  h⟩
abbrev k4 : Sk := [(0,.i .i64),(1,.v),(5,.v)]
noncomputable def o13 := ob Try.f95 [.r,.r,.l,.l]
def B13 (P : PT) (x0 : Int) (x1 x5 : Value) (H : AHeap) : Prop :=
  L8 P x0 x1 x5 0 H
theorem q13 (P : PT) : QB Try.prog T0 46 o13 (En 46 k3 (L8 P)) k4 (B13 P) := fun _ _ _ _ _  => by kernel_rfl
abbrev k5 : Sk := [(0,.i .i64),(1,.v)]
noncomputable def o14 := ob Try.f95 [.r,.l]
def B14 (P : PT) (x0 : Int) (x1 : Value) (H : AHeap) : Prop :=
  mkR H 8 2 [(Value.int .i64 0)] x0 x0 (fun v2 H1 => B13 P x0 x1 v2 H1)
theorem q14 (P : PT) : QB Try.prog T0 46 o14 (En 46 k4 (B13 P)) k5 (B14 P) := fun _ _ _ _  => by kernel_rfl
noncomputable def o15 := ob Try.f95 [.l]
def B15 (P : PT) (x0 : Int) (x1 : Value) (H : AHeap) : Prop :=
  B14 P x0 x1 H
theorem q15 (P : PT) : QB Try.prog T0 46 o15 (En 46 k5 (B14 P)) k5 (B15 P) := fun _ _ _ _  => by kernel_rfl
noncomputable def code : Code := (.seq (.region 0 ⟨o15⟩ false) (.seq (.region 1 ⟨o14⟩ false) (.seq (.seq (.region 2 ⟨o13⟩ false) (.block 0 (.loop (.seq (.seq (.region 3 ⟨o12⟩ false) (.cond (.tmp 13) .skip (.exit 0))) (.seq (.block 1 (.seq (.region 5 ⟨o11⟩ false) (.region 6 ⟨o10⟩ false))) (.region 4 ⟨o9⟩ false)))))) (.seq (.seq (.region 7 ⟨o7⟩ false) (.block 2 (.loop (.seq (.seq (.region 8 ⟨o6⟩ false) (.cond (.tmp 38) .skip (.exit 2))) (.seq (.block 3 (.seq (.region 10 ⟨o5⟩ false) (.cond (.tmp 45) (.seq (.region 11 ⟨o4⟩ false) .ret) .skip))) (.region 9 ⟨o3⟩ false)))))) (.seq (.region 12 ⟨o1⟩ false) .ret)))))
theorem body : Try.f95.body = some code := by kernel_rfl
theorem main (P : PT) : ∀ env H, (En 46 k5 (B15 P)) env H → AW Try.prog T0 code env H (mkQ (ret P) (fun _ _ _ => False) (ret P)) :=
  (r_seq (rB T0_ok (q15 P)) (r_seq (rB T0_ok (q14 P)) (r_seq (r_seq (rB T0_ok (q13 P)) (r_block (rL (l8 P) (fun N8 => (r_seq (r_seq (rB T0_ok (q12 P N8)) (r_cond rfl r_skip (r_exit (fun _ _ h => h)))) (r_seq (r_block (r_seq (rB T0_ok (q11 P N8)) (rB T0_ok (q10 P N8)))) (rB T0_ok (q9 P N8)))))))) (r_seq (r_seq (rB T0_ok (q7 P)) (r_block (rL (l2 P) (fun N2 => (r_seq (r_seq (rB T0_ok (q6 P N2)) (r_cond rfl r_skip (r_exit (fun _ _ h => h)))) (r_seq (r_block (r_seq (rB T0_ok (q5 P N2)) (r_cond rfl (r_seq (rB T0_ok (q4 P N2)) r_ret) r_skip))) (rB T0_ok (q3 P N2)))))))) (r_seq (rB T0_ok (q1 P)) r_ret)))))
theorem ac (P : PT) (x0 : Int) (x1 : Value) (H : AHeap) (h : B15 P x0 x1 H) : AC Try.prog T0 95 [(Value.int .i64 x0), x1] H P :=
  r_fn T0_ok (c := code) (n := 46) Try.func95 body (by kernel_rfl) (main P) (En_mk (x0, x1, ()) (by kernel_rfl) ⟨by kernel_rfl, by kernel_rfl, trivial⟩ h)

end F95
-- loop.example/g01329/spec.l01Before
namespace F96
noncomputable def ret (P : PT) : EP := retE T0 24 Try.f96 P
abbrev k0 : Sk := [(2,.x),(3,.x)]
noncomputable def o1 := ob Try.f96 [.r,.l]
def B1 (P : PT) (x2 x3 : Nat) (H : AHeap) : Prop :=
  ldI .i64 H x2 0 (fun v1 => ldI .i64 H x3 0 (fun v2 => pif (decide ((v1 : Int) < v2)) (P (Value.bool true) H) (ldI .i64 H x2 0 (fun v3 => ldI .i64 H x3 0 (fun v4 => pif ((v3 : Int) == v4) (ldI .i64 H x2 1 (fun v5 => ldI .i64 H x3 1 (fun v6 => P (Value.bool (decide ((v5 : Int) < v6))) H))) (P (Value.bool false) H))))))
theorem q1 (P : PT) : QB Try.prog T0 24 o1 (ret P) k0 (B1 P) := fun _ _ _ _  => by kernel_rfl
abbrev k1 : Sk := [(0,.g [.i,.i]),(1,.g [.i,.i])]
noncomputable def o2 := ob Try.f96 [.l]
def B2 (P : PT) (x0a x0b x1a x1b : Int) (H : AHeap) : Prop :=
  newK H [(Value.int .i64 x0a), (Value.int .i64 x0b)] 100 (fun b1 H2 => newK H2 [(Value.int .i64 x1a), (Value.int .i64 x1b)] 100 (fun b3 H4 => B1 P b1 b3 H4))
theorem q2 (P : PT) : QB Try.prog T0 24 o2 (En 24 k0 (B1 P)) k1 (B2 P) := fun _ _ _ _ _ _  => by kernel_rfl
noncomputable def code : Code := (.seq (.region 0 ⟨o2⟩ false) (.seq (.region 1 ⟨o1⟩ false) .ret))
theorem body : Try.f96.body = some code := by kernel_rfl
theorem main (P : PT) : ∀ env H, (En 24 k1 (B2 P)) env H → AW Try.prog T0 code env H (mkQ (ret P) (fun _ _ _ => False) (ret P)) :=
  (r_seq (rB T0_ok (q2 P)) (r_seq (rB T0_ok (q1 P)) r_ret))
theorem ac (P : PT) (x0a x0b x1a x1b : Int) (H : AHeap) (h : B2 P x0a x0b x1a x1b H) : AC Try.prog T0 96 [(Value.agg ⟨[(Value.int .i64 x0a), (Value.int .i64 x0b)]⟩), (Value.agg ⟨[(Value.int .i64 x1a), (Value.int .i64 x1b)]⟩)] H P :=
  r_fn T0_ok (c := code) (n := 24) Try.func96 body (by kernel_rfl) (main P) (En_mk (x0a, x0b, x1a, x1b, ()) (by kernel_rfl) ⟨by kernel_rfl, by kernel_rfl, trivial⟩ h)

end F96
-- loop.example/g01329/laws.toEdge
namespace F98
noncomputable def ret (P : PT) : EP := retE T0 15 Try.f98 P
abbrev k0 : Sk := [(2,.x),(3,.x)]
noncomputable def o1 := ob Try.f98 [.r,.r,.r,.l]
def B1 (P : PT) (x2 x3 : Nat) (H : AHeap) : Prop :=
  ldI .i64 H x3 0 (fun v1 => ldI .i64 H x3 1 (fun v2 => stK H x2 0 [(Value.int .i64 v1), (Value.int .i64 v2)] (fun H3 => ldI .i64 H3 x2 0 (fun v4 => ldI .i64 H3 x2 1 (fun v5 => P (Value.agg ⟨[(Value.int .i64 v4), (Value.int .i64 v5)]⟩) H3)))))
theorem q1 (P : PT) : QB Try.prog T0 15 o1 (ret P) k0 (B1 P) := fun _ _ _ _  => by kernel_rfl
abbrev k1 : Sk := [(1,.x),(2,.x),(3,.x),(4,.i .i64)]
noncomputable def o3 := ob Try.f98 [.r,.r,.l,.r,.l,.l,.r,.r]
def B3 (P : PT) (N2 : NTy k1 Pr) (x1 x2 x3 : Nat) (x4 : Int) (H : AHeap) : Prop :=
  N2 x1 x2 x3 (IntKind.i64.wrap (x4 + 1)) H
theorem q3 (P : PT) (N2 : NTy k1 Pr) : QB Try.prog T0 15 o3 (En 15 k1 N2) k1 (B3 P N2) := fun _ _ _ _ _ _  => by kernel_rfl
noncomputable def o4 := ob Try.f98 [.r,.r,.l,.r,.l,.l,.r,.l,.l]
def B4 (P : PT) (N2 : NTy k1 Pr) (x1 x2 x3 : Nat) (x4 : Int) (H : AHeap) : Prop :=
  bndK x4 2 (ldI .i64 H x1 (0 + Int.toNat x4 * 1) (fun v1 => bndK x4 2 (stK H x3 (0 + Int.toNat x4 * 1) [(Value.int .i64 v1)] (fun H2 => B3 P N2 x1 x2 x3 x4 H2))))
theorem q4 (P : PT) (N2 : NTy k1 Pr) : QB Try.prog T0 15 o4 (En 15 k1 (B3 P N2)) k1 (B4 P N2) := fun _ _ _ _ _ _  => by kernel_rfl
noncomputable def o5 := ob Try.f98 [.r,.r,.l,.r,.l,.l,.l,.l]
def B5 (P : PT) (N2 : NTy k1 Pr) (x1 x2 x3 : Nat) (x4 : Int) (H : AHeap) : Prop :=
  pif (decide ((x4 : Int) < 2)) (B4 P N2 x1 x2 x3 x4 H) (B1 P x2 x3 H)
theorem q5 (P : PT) (N2 : NTy k1 Pr) : QB Try.prog T0 15 o5 (cnd 6 (En 15 k1 (B4 P N2)) (En 15 k0 (B1 P))) k1 (B5 P N2) := fun _ _ _ _ _ _  => by kernel_rfl
def L2 (P : PT) (x1 x2 x3 : Nat) (x4 : Int) (H : AHeap) : Prop :=
  ∃ (I : NTy k1 Pr) (μ : NTy k1 (AHeap → Nat)), I x1 x2 x3 x4 H ∧ ∀ y1 y2 y3 y4 G, I y1 y2 y3 y4 G → B5 P (fun z1 z2 z3 z4 G' => I z1 z2 z3 z4 G' ∧ μ z1 z2 z3 z4 G' < μ y1 y2 y3 y4 G) y1 y2 y3 y4 G
theorem l2 (P : PT) : LQ k1 (L2 P) (B5 P) := fun ⟨_,_,_,_,_⟩ _ ⟨I, μ, h0, hI⟩ => ⟨apT _ I, apT _ μ, h0, fun ⟨_,_,_,_,_⟩ _ h => hI _ _ _ _ _  h⟩
abbrev k2 : Sk := [(1,.x),(2,.x),(3,.x)]
noncomputable def o6 := ob Try.f98 [.r,.r,.l,.l]
def B6 (P : PT) (x1 x2 x3 : Nat) (H : AHeap) : Prop :=
  L2 P x1 x2 x3 0 H
theorem q6 (P : PT) : QB Try.prog T0 15 o6 (En 15 k1 (L2 P)) k2 (B6 P) := fun _ _ _ _ _  => by kernel_rfl
abbrev k3 : Sk := [(1,.x),(2,.x)]
noncomputable def o7 := ob Try.f98 [.r,.l]
def B7 (P : PT) (x1 x2 : Nat) (H : AHeap) : Prop :=
  newK H [(Value.int .i64 0), (Value.int .i64 0)] 100 (fun b1 H2 => B6 P x1 x2 b1 H2)
theorem q7 (P : PT) : QB Try.prog T0 15 o7 (En 15 k2 (B6 P)) k3 (B7 P) := fun _ _ _ _  => by kernel_rfl
abbrev k4 : Sk := [(0,.g [.i,.i])]
noncomputable def o8 := ob Try.f98 [.l]
def B8 (P : PT) (x0a x0b : Int) (H : AHeap) : Prop :=
  newK H [(Value.int .i64 x0a), (Value.int .i64 x0b)] 99 (fun b1 H2 => newK H2 [(Value.int .i64 0), (Value.int .i64 0)] 100 (fun b3 H4 => B7 P b1 b3 H4))
theorem q8 (P : PT) : QB Try.prog T0 15 o8 (En 15 k3 (B7 P)) k4 (B8 P) := fun _ _ _ _  => by kernel_rfl
noncomputable def code : Code := (.seq (.region 0 ⟨o8⟩ false) (.seq (.region 1 ⟨o7⟩ false) (.seq (.seq (.region 2 ⟨o6⟩ false) (.block 0 (.loop (.seq (.seq (.region 3 ⟨o5⟩ false) (.cond (.tmp 6) .skip (.exit 0))) (.seq (.block 1 (.region 5 ⟨o4⟩ false)) (.region 4 ⟨o3⟩ false)))))) (.seq (.region 6 ⟨o1⟩ false) .ret))))
theorem body : Try.f98.body = some code := by kernel_rfl
theorem main (P : PT) : ∀ env H, (En 15 k4 (B8 P)) env H → AW Try.prog T0 code env H (mkQ (ret P) (fun _ _ _ => False) (ret P)) :=
  (r_seq (rB T0_ok (q8 P)) (r_seq (rB T0_ok (q7 P)) (r_seq (r_seq (rB T0_ok (q6 P)) (r_block (rL (l2 P) (fun N2 => (r_seq (r_seq (rB T0_ok (q5 P N2)) (r_cond rfl r_skip (r_exit (fun _ _ h => h)))) (r_seq (r_block (rB T0_ok (q4 P N2))) (rB T0_ok (q3 P N2)))))))) (r_seq (rB T0_ok (q1 P)) r_ret))))
theorem ac (P : PT) (x0a x0b : Int) (H : AHeap) (h : B8 P x0a x0b H) : AC Try.prog T0 98 [(Value.agg ⟨[(Value.int .i64 x0a), (Value.int .i64 x0b)]⟩)] H P :=
  r_fn T0_ok (c := code) (n := 15) Try.func98 body (by kernel_rfl) (main P) (En_mk (x0a, x0b, ()) (by kernel_rfl) ⟨by kernel_rfl, trivial⟩ h)

end F98
-- loop.example/g01329/impl.IsGraph
namespace F99
noncomputable def ret (P : PT) : EP := retE T0 25 Try.f99 P
abbrev k0 : Sk := [(1,.x)]
noncomputable def o1 := ob Try.f99 [.r,.l]
def B1 (P : PT) (x1 : Nat) (H : AHeap) : Prop :=
  ldI .i64 H x1 0 (fun v1 => ld1 H x1 1 (fun v2 => AC Try.prog T0 144 [(Value.int .i64 v1), v2] H (fun v3 H4 => asB v3 (fun v5 => pif v5 (ld1 H4 x1 1 (fun v6 => AC Try.prog T0 145 [v6, (Value.func (.func 146) ⟨[]⟩ ⟨[]⟩)] H4 (fun v7 H8 => asB v7 (fun v9 => pif v9 (ld1 H8 x1 1 (fun v10 => AC Try.prog T0 147 [v10, (Value.func (.func 148) ⟨[]⟩ ⟨[]⟩)] H8 (fun v11 H12 => asB v11 (fun v13 => pif v13 (ldI .i64 H12 x1 0 (fun v14 => ld1 H12 x1 1 (fun v15 => AC Try.prog T0 149 [(Value.int .i64 v14), v15] H12 (fun v16 H17 => asB v16 (fun v18 => P (Value.bool v18) H17))))) (P (Value.bool false) H12))))) (P (Value.bool false) H8))))) (P (Value.bool false) H4)))))
theorem q1 (P : PT) : QB Try.prog T0 25 o1 (ret P) k0 (B1 P) := fun _ _ _  => by kernel_rfl
abbrev k1 : Sk := [(0,.g [.i,.v])]
noncomputable def o2 := ob Try.f99 [.l]
def B2 (P : PT) (x0a : Int) (x0b : Value) (H : AHeap) : Prop :=
  newK H [(Value.int .i64 x0a), x0b] 32 (fun b1 H2 => B1 P b1 H2)
theorem q2 (P : PT) : QB Try.prog T0 25 o2 (En 25 k0 (B1 P)) k1 (B2 P) := fun _ _ _ _  => by kernel_rfl
noncomputable def code : Code := (.seq (.region 0 ⟨o2⟩ false) (.seq (.region 1 ⟨o1⟩ false) .ret))
theorem body : Try.f99.body = some code := by kernel_rfl
theorem main (P : PT) : ∀ env H, (En 25 k1 (B2 P)) env H → AW Try.prog T0 code env H (mkQ (ret P) (fun _ _ _ => False) (ret P)) :=
  (r_seq (rB T0_ok (q2 P)) (r_seq (rB T0_ok (q1 P)) r_ret))
theorem ac (P : PT) (x0a : Int) (x0b : Value) (H : AHeap) (h : B2 P x0a x0b H) : AC Try.prog T0 99 [(Value.agg ⟨[(Value.int .i64 x0a), x0b]⟩)] H P :=
  r_fn T0_ok (c := code) (n := 25) Try.func99 body (by kernel_rfl) (main P) (En_mk (x0a, x0b, ()) (by kernel_rfl) ⟨by kernel_rfl, trivial⟩ h)

end F99
-- (loop.example/g01329/impl.set).has
namespace F102
noncomputable def ret (P : PT) : EP := retE T0 10 Try.f102 P
abbrev k0 : Sk := [(0,.i .u64),(1,.i .i64)]
noncomputable def o1 := ob Try.f102 [.r,.l]
def B1 (P : PT) (x0 x1 : Int) (H : AHeap) : Prop :=
  ((0 : Int) ≤ x1) ∧ (P (Value.bool ((IntKind.u64.wrap (BitVec.ofInt 64 (Int.fdiv x0 (2 ^ (min (Int.toNat x1) 64))) &&& BitVec.ofInt 64 1).toNat : Int) == 1)) H)
theorem q1 (P : PT) : QB Try.prog T0 10 o1 (ret P) k0 (B1 P) := fun _ _ _ _  => by kernel_rfl
noncomputable def o2 := ob Try.f102 [.l]
def B2 (P : PT) (x0 x1 : Int) (H : AHeap) : Prop :=
  B1 P x0 x1 H
theorem q2 (P : PT) : QB Try.prog T0 10 o2 (En 10 k0 (B1 P)) k0 (B2 P) := fun _ _ _ _  => by kernel_rfl
noncomputable def code : Code := (.seq (.region 0 ⟨o2⟩ false) (.seq (.region 1 ⟨o1⟩ false) .ret))
theorem body : Try.f102.body = some code := by kernel_rfl
theorem main (P : PT) : ∀ env H, (En 10 k0 (B2 P)) env H → AW Try.prog T0 code env H (mkQ (ret P) (fun _ _ _ => False) (ret P)) :=
  (r_seq (rB T0_ok (q2 P)) (r_seq (rB T0_ok (q1 P)) r_ret))
theorem ac (P : PT) (x0 x1 : Int) (H : AHeap) (h : B2 P x0 x1 H) : AC Try.prog T0 102 [(Value.int .u64 x0), (Value.int .i64 x1)] H P :=
  r_fn T0_ok (c := code) (n := 10) Try.func102 body (by kernel_rfl) (main P) (En_mk (x0, x1, ()) (by kernel_rfl) ⟨by kernel_rfl, by kernel_rfl, trivial⟩ h)

end F102
-- (loop.example/g01329/impl.Graph).at
namespace F105
noncomputable def ret (P : PT) : EP := retE T0 25 Try.f105 P
abbrev k0 : Sk := [(5,.v)]
noncomputable def o1 := ob Try.f105 [.r,.r,.r,.l]
def B1 (P : PT) (x5 : Value) (H : AHeap) : Prop :=
  P x5 H
theorem q1 (P : PT) : QB Try.prog T0 25 o1 (ret P) k0 (B1 P) := fun _ _ _  => by kernel_rfl
abbrev k1 : Sk := [(1,.i .i64),(5,.v),(9,.v),(10,.i .i64),(11,.i .i64)]
noncomputable def o3 := ob Try.f105 [.r,.r,.l,.r,.l,.l,.r,.r,.r]
def B3 (P : PT) (N2 : NTy k1 Pr) (x1 : Int) (x5 x9 : Value) (x10 x11 : Int) (H : AHeap) : Prop :=
  N2 x1 x5 x9 x10 (IntKind.i64.wrap (x11 + 1)) H
theorem q3 (P : PT) (N2 : NTy k1 Pr) : QB Try.prog T0 25 o3 (En 25 k1 N2) k1 (B3 P N2) := fun _ _ _ _ _ _ _  => by kernel_rfl
abbrev k2 : Sk := [(1,.i .i64),(5,.v),(6,.i .i64),(9,.v),(10,.i .i64),(11,.i .i64)]
noncomputable def o4 := ob Try.f105 [.r,.r,.l,.r,.l,.l,.r,.r,.l,.l,.r,.r,.l]
def B4 (P : PT) (N2 : NTy k1 Pr) (x1 : Int) (x5 : Value) (x6 : Int) (x9 : Value) (x10 x11 : Int) (H : AHeap) : Prop :=
  newK H [(Value.int .i64 x6)] 2 (fun b1 H2 => apK T0 2 H2 x5 (Value.slice (some ⟨b1, 0, none⟩) 1 (1 + 1)) (fun v3 H4 => B3 P N2 x1 v3 x9 x10 x11 H4))
theorem q4 (P : PT) (N2 : NTy k1 Pr) : QB Try.prog T0 25 o4 (En 25 k1 (B3 P N2)) k2 (B4 P N2) := fun _ _ _ _ _ _ _ _  => by kernel_rfl
abbrev k3 : Sk := [(1,.i .i64),(5,.v),(6,.i .i64),(7,.x),(9,.v),(10,.i .i64),(11,.i .i64)]
noncomputable def o5 := ob Try.f105 [.r,.r,.l,.r,.l,.l,.r,.r,.l,.l,.r,.l]
def B5 (P : PT) (N2 : NTy k1 Pr) (x1 : Int) (x5 : Value) (x6 : Int) (x7 : Nat) (x9 : Value) (x10 x11 : Int) (H : AHeap) : Prop :=
  ldI .i64 H x7 0 (fun v1 => ldI .i64 H x7 1 (fun v2 => AC Try.prog T0 151 [(Value.agg ⟨[(Value.int .i64 v1), (Value.int .i64 v2)]⟩), (Value.int .i64 x1)] H (fun v3 H4 => asB v3 (fun v5 => pif v5 (B4 P N2 x1 x5 x6 x9 x10 x11 H4) (B3 P N2 x1 x5 x9 x10 x11 H4)))))
theorem q5 (P : PT) (N2 : NTy k1 Pr) : QB Try.prog T0 25 o5 (cnd 18 (En 25 k2 (B4 P N2)) (En 25 k1 (B3 P N2))) k3 (B5 P N2) := fun _ _ _ _ _ _ _ _ _  => by kernel_rfl
noncomputable def o6 := ob Try.f105 [.r,.r,.l,.r,.l,.l,.r,.r,.l,.l,.l]
def B6 (P : PT) (N2 : NTy k1 Pr) (x1 : Int) (x5 x9 : Value) (x10 x11 : Int) (H : AHeap) : Prop :=
  idxK x9 x11 2 (fun b1 o2 => ldI .i64 H b1 o2 (fun v3 => ldI .i64 H b1 (o2 + 1) (fun v4 => newK H [(Value.int .i64 0), (Value.int .i64 0)] 100 (fun b5 H6 => stK H6 b5 0 [(Value.int .i64 v3), (Value.int .i64 v4)] (fun H7 => B5 P N2 x1 x5 x11 b5 x9 x10 x11 H7)))))
theorem q6 (P : PT) (N2 : NTy k1 Pr) : QB Try.prog T0 25 o6 (En 25 k3 (B5 P N2)) k1 (B6 P N2) := fun _ _ _ _ _ _ _  => by kernel_rfl
noncomputable def o7 := ob Try.f105 [.r,.r,.l,.r,.l,.l,.l]
def B7 (P : PT) (N2 : NTy k1 Pr) (x1 : Int) (x5 x9 : Value) (x10 x11 : Int) (H : AHeap) : Prop :=
  pif (decide ((x11 : Int) < x10)) (B6 P N2 x1 x5 x9 x10 x11 H) (B1 P x5 H)
theorem q7 (P : PT) (N2 : NTy k1 Pr) : QB Try.prog T0 25 o7 (cnd 12 (En 25 k1 (B6 P N2)) (En 25 k0 (B1 P))) k1 (B7 P N2) := fun _ _ _ _ _ _ _  => by kernel_rfl
def L2 (P : PT) (x1 : Int) (x5 x9 : Value) (x10 x11 : Int) (H : AHeap) : Prop :=
  ∃ (I : NTy k1 Pr) (μ : NTy k1 (AHeap → Nat)), I x1 x5 x9 x10 x11 H ∧ ∀ y1 y5 y9 y10 y11 G, I y1 y5 y9 y10 y11 G → B7 P (fun z1 z5 z9 z10 z11 G' => I z1 z5 z9 z10 z11 G' ∧ μ z1 z5 z9 z10 z11 G' < μ y1 y5 y9 y10 y11 G) y1 y5 y9 y10 y11 G
theorem l2 (P : PT) : LQ k1 (L2 P) (B7 P) := fun ⟨_,_,_,_,_,_⟩ _ ⟨I, μ, h0, hI⟩ => ⟨apT _ I, apT _ μ, h0, fun ⟨_,_,_,_,_,_⟩ _ h => hI _ _ _ _ _ _  h⟩
abbrev k4 : Sk := [(1,.i .i64),(2,.x),(5,.v)]
noncomputable def o8 := ob Try.f105 [.r,.r,.l,.l]
def B8 (P : PT) (x1 : Int) (x2 : Nat) (x5 : Value) (H : AHeap) : Prop :=
  ld1 H x2 1 (fun v1 => lenK v1 (fun n2 => L2 P x1 x5 v1 (n2 : Int) 0 H))
theorem q8 (P : PT) : QB Try.prog T0 25 o8 (En 25 k1 (L2 P)) k4 (B8 P) := fun _ _ _ _ _  => by kernel_rfl
abbrev k5 : Sk := [(1,.i .i64),(2,.x)]
noncomputable def o9 := ob Try.f105 [.r,.l]
def B9 (P : PT) (x1 : Int) (x2 : Nat) (H : AHeap) : Prop :=
  B8 P x1 x2 (Value.slice none 0 0) H
theorem q9 (P : PT) : QB Try.prog T0 25 o9 (En 25 k4 (B8 P)) k5 (B9 P) := fun _ _ _ _  => by kernel_rfl
abbrev k6 : Sk := [(0,.g [.i,.v]),(1,.i .i64)]
noncomputable def o10 := ob Try.f105 [.l]
def B10 (P : PT) (x0a : Int) (x0b : Value) (x1 : Int) (H : AHeap) : Prop :=
  newK H [(Value.int .i64 x0a), x0b] 32 (fun b1 H2 => B9 P x1 b1 H2)
theorem q10 (P : PT) : QB Try.prog T0 25 o10 (En 25 k5 (B9 P)) k6 (B10 P) := fun _ _ _ _ _  => by kernel_rfl
noncomputable def code : Code := (.seq (.region 0 ⟨o10⟩ false) (.seq (.region 1 ⟨o9⟩ false) (.seq (.seq (.region 2 ⟨o8⟩ false) (.block 0 (.loop (.seq (.region 3 ⟨o7⟩ false) (.seq (.cond (.tmp 12) .skip (.exit 0)) (.seq (.block 1 (.seq (.region 4 ⟨o6⟩ false) (.seq (.region 5 ⟨o5⟩ false) (.cond (.tmp 18) (.region 6 ⟨o4⟩ false) .skip)))) (.region 7 ⟨o3⟩ false))))))) (.seq (.region 8 ⟨o1⟩ false) .ret))))
theorem body : Try.f105.body = some code := by kernel_rfl
theorem main (P : PT) : ∀ env H, (En 25 k6 (B10 P)) env H → AW Try.prog T0 code env H (mkQ (ret P) (fun _ _ _ => False) (ret P)) :=
  (r_seq (rB T0_ok (q10 P)) (r_seq (rB T0_ok (q9 P)) (r_seq (r_seq (rB T0_ok (q8 P)) (r_block (rL (l2 P) (fun N2 => (r_seq (rB T0_ok (q7 P N2)) (r_seq (r_cond rfl r_skip (r_exit (fun _ _ h => h))) (r_seq (r_block (r_seq (rB T0_ok (q6 P N2)) (r_seq (rB T0_ok (q5 P N2)) (r_cond rfl (rB T0_ok (q4 P N2)) r_skip)))) (rB T0_ok (q3 P N2))))))))) (r_seq (rB T0_ok (q1 P)) r_ret))))
theorem ac (P : PT) (x0a : Int) (x0b : Value) (x1 : Int) (H : AHeap) (h : B10 P x0a x0b x1 H) : AC Try.prog T0 105 [(Value.agg ⟨[(Value.int .i64 x0a), x0b]⟩), (Value.int .i64 x1)] H P :=
  r_fn T0_ok (c := code) (n := 25) Try.func105 body (by kernel_rfl) (main P) (En_mk (x0a, x0b, x1, ()) (by kernel_rfl) ⟨by kernel_rfl, by kernel_rfl, trivial⟩ h)

end F105
-- loop.example/g01329/laws.eqEdge
namespace F106
noncomputable def ret (P : PT) : EP := retE T0 17 Try.f106 P
abbrev k0 : Sk := []
noncomputable def o1 := ob Try.f106 [.r,.r,.l]
def B1 (P : PT) (H : AHeap) : Prop :=
  P (Value.bool true) H
theorem q1 (P : PT) : QB Try.prog T0 17 o1 (ret P) k0 (B1 P) := fun _ _  => by kernel_rfl
abbrev k1 : Sk := [(2,.x),(3,.x),(5,.i .i64)]
noncomputable def o3 := ob Try.f106 [.r,.l,.r,.l,.l,.r,.r]
def B3 (P : PT) (N2 : NTy k1 Pr) (x2 x3 : Nat) (x5 : Int) (H : AHeap) : Prop :=
  N2 x2 x3 (IntKind.i64.wrap (x5 + 1)) H
theorem q3 (P : PT) (N2 : NTy k1 Pr) : QB Try.prog T0 17 o3 (En 17 k1 N2) k1 (B3 P N2) := fun _ _ _ _ _  => by kernel_rfl
noncomputable def o4 := ob Try.f106 [.r,.l,.r,.l,.l,.r,.l,.l,.r,.l,.l]
def B4 (P : PT) (N2 : NTy k1 Pr) (H : AHeap) : Prop :=
  P (Value.bool false) H
theorem q4 (P : PT) (N2 : NTy k1 Pr) : QB Try.prog T0 17 o4 (ret P) k0 (B4 P N2) := fun _ _  => by kernel_rfl
noncomputable def o5 := ob Try.f106 [.r,.l,.r,.l,.l,.r,.l,.l,.l]
def B5 (P : PT) (N2 : NTy k1 Pr) (x2 x3 : Nat) (x5 : Int) (H : AHeap) : Prop :=
  bndK x5 2 (ldI .i64 H x2 (0 + Int.toNat x5 * 1) (fun v1 => bndK x5 2 (ldI .i64 H x3 (0 + Int.toNat x5 * 1) (fun v2 => pif ((v1 : Int) != v2) (B4 P N2 H) (B3 P N2 x2 x3 x5 H)))))
theorem q5 (P : PT) (N2 : NTy k1 Pr) : QD Try.prog T0 17 o5 [(0, false), (1, false), (2, false), (3, false), (4, false), (5, false), (6, false)] (cnd 16 (En 17 k0 (B4 P N2)) (En 17 k1 (B3 P N2))) k1 (B5 P N2) := fun _ _ _ _ _  => by kernel_rfl
noncomputable def o6 := ob Try.f106 [.r,.l,.r,.l,.l,.l,.l]
def B6 (P : PT) (N2 : NTy k1 Pr) (x2 x3 : Nat) (x5 : Int) (H : AHeap) : Prop :=
  pif (decide ((x5 : Int) < 2)) (B5 P N2 x2 x3 x5 H) (B1 P H)
theorem q6 (P : PT) (N2 : NTy k1 Pr) : QB Try.prog T0 17 o6 (cnd 7 (En 17 k1 (B5 P N2)) (En 17 k0 (B1 P))) k1 (B6 P N2) := fun _ _ _ _ _  => by kernel_rfl
def L2 (P : PT) (x2 x3 : Nat) (x5 : Int) (H : AHeap) : Prop :=
  ∃ (I : NTy k1 Pr) (μ : NTy k1 (AHeap → Nat)), I x2 x3 x5 H ∧ ∀ y2 y3 y5 G, I y2 y3 y5 G → B6 P (fun z2 z3 z5 G' => I z2 z3 z5 G' ∧ μ z2 z3 z5 G' < μ y2 y3 y5 G) y2 y3 y5 G
theorem l2 (P : PT) : LQ k1 (L2 P) (B6 P) := fun ⟨_,_,_,_⟩ _ ⟨I, μ, h0, hI⟩ => ⟨apT _ I, apT _ μ, h0, fun ⟨_,_,_,_⟩ _ h => hI _ _ _ _  h⟩
abbrev k2 : Sk := [(2,.x),(3,.x)]
noncomputable def o7 := ob Try.f106 [.r,.l,.l]
def B7 (P : PT) (x2 x3 : Nat) (H : AHeap) : Prop :=
  L2 P x2 x3 0 H
theorem q7 (P : PT) : QB Try.prog T0 17 o7 (En 17 k1 (L2 P)) k2 (B7 P) := fun _ _ _ _  => by kernel_rfl
abbrev k3 : Sk := [(0,.g [.i,.i]),(1,.g [.i,.i])]
noncomputable def o8 := ob Try.f106 [.l]
def B8 (P : PT) (x0a x0b x1a x1b : Int) (H : AHeap) : Prop :=
  newK H [(Value.int .i64 x0a), (Value.int .i64 x0b)] 100 (fun b1 H2 => newK H2 [(Value.int .i64 x1a), (Value.int .i64 x1b)] 100 (fun b3 H4 => B7 P b1 b3 H4))
theorem q8 (P : PT) : QB Try.prog T0 17 o8 (En 17 k2 (B7 P)) k3 (B8 P) := fun _ _ _ _ _ _  => by kernel_rfl
noncomputable def code : Code := (.seq (.region 0 ⟨o8⟩ false) (.seq (.seq (.region 1 ⟨o7⟩ false) (.block 0 (.loop (.seq (.seq (.region 2 ⟨o6⟩ false) (.cond (.tmp 7) .skip (.exit 0))) (.seq (.block 1 (.seq (.region 4 ⟨o5⟩ true) (.cond (.tmp 16) (.seq (.region 5 ⟨o4⟩ false) .ret) .skip))) (.region 3 ⟨o3⟩ false)))))) (.seq (.region 6 ⟨o1⟩ false) .ret)))
theorem body : Try.f106.body = some code := by kernel_rfl
theorem main (P : PT) : ∀ env H, (En 17 k3 (B8 P)) env H → AW Try.prog T0 code env H (mkQ (ret P) (fun _ _ _ => False) (ret P)) :=
  (r_seq (rB T0_ok (q8 P)) (r_seq (r_seq (rB T0_ok (q7 P)) (r_block (rL (l2 P) (fun N2 => (r_seq (r_seq (rB T0_ok (q6 P N2)) (r_cond rfl r_skip (r_exit (fun _ _ h => h)))) (r_seq (r_block (r_seq (rD T0_ok mixed [(0, false), (1, false), (2, false), (3, false), (4, false), (5, false), (6, false)] (by kernel_rfl) (q5 P N2)) (r_cond rfl (r_seq (rB T0_ok (q4 P N2)) r_ret) r_skip))) (rB T0_ok (q3 P N2)))))))) (r_seq (rB T0_ok (q1 P)) r_ret)))
theorem ac (P : PT) (x0a x0b x1a x1b : Int) (H : AHeap) (h : B8 P x0a x0b x1a x1b H) : AC Try.prog T0 106 [(Value.agg ⟨[(Value.int .i64 x0a), (Value.int .i64 x0b)]⟩), (Value.agg ⟨[(Value.int .i64 x1a), (Value.int .i64 x1b)]⟩)] H P :=
  r_fn T0_ok (c := code) (n := 17) Try.func106 body (by kernel_rfl) (main P) (En_mk (x0a, x0b, x1a, x1b, ()) (by kernel_rfl) ⟨by kernel_rfl, by kernel_rfl, trivial⟩ h)

end F106
-- loop.example/g01329/spec.l08Weak
namespace F109
noncomputable def ret (P : PT) : EP := retE T0 62 Try.f109 P
abbrev k0 : Sk := []
noncomputable def o1 := ob Try.f109 [.r,.r,.r,.l]
def B1 (P : PT) (H : AHeap) : Prop :=
  P (Value.tuple ⟨[(Value.slice none 0 0), (Value.bool false)]⟩) H
theorem q1 (P : PT) : QB Try.prog T0 62 o1 (ret P) k0 (B1 P) := fun _ _  => by kernel_rfl
abbrev k1 : Sk := [(1,.i .i64),(3,.v),(4,.x),(12,.i .i64)]
noncomputable def o3 := ob Try.f109 [.r,.r,.l,.r,.l,.l,.r,.r]
def B3 (P : PT) (N2 : NTy k1 Pr) (x1 : Int) (x3 : Value) (x4 : Nat) (x12 : Int) (H : AHeap) : Prop :=
  N2 x1 x3 x4 (IntKind.i64.wrap (x12 + 1)) H
theorem q3 (P : PT) (N2 : NTy k1 Pr) : QB Try.prog T0 62 o3 (En 62 k1 N2) k1 (B3 P N2) := fun _ _ _ _ _ _  => by kernel_rfl
abbrev k2 : Sk := [(13,.v)]
noncomputable def o4 := ob Try.f109 [.r,.r,.l,.r,.l,.l,.r,.l,.l,.r,.r,.l,.l]
def B4 (P : PT) (N2 : NTy k1 Pr) (x13 : Value) (H : AHeap) : Prop :=
  P (Value.tuple ⟨[x13, (Value.bool true)]⟩) H
theorem q4 (P : PT) (N2 : NTy k1 Pr) : QB Try.prog T0 62 o4 (ret P) k2 (B4 P N2) := fun _ _ _  => by kernel_rfl
abbrev k3 : Sk := [(1,.i .i64),(3,.v),(4,.x),(12,.i .i64),(13,.v),(14,.b)]
noncomputable def o5 := ob Try.f109 [.r,.r,.l,.r,.l,.l,.r,.l,.l,.r,.l]
def B5 (P : PT) (N2 : NTy k1 Pr) (x1 : Int) (x3 : Value) (x4 : Nat) (x12 : Int) (x13 : Value) (x14 : Bool) (H : AHeap) : Prop :=
  pif x14 (B4 P N2 x13 H) (B3 P N2 x1 x3 x4 x12 H)
theorem q5 (P : PT) (N2 : NTy k1 Pr) : QB Try.prog T0 62 o5 (cnd 60 (En 62 k2 (B4 P N2)) (En 62 k1 (B3 P N2))) k3 (B5 P N2) := fun _ _ _ _ _ _ _ _  => by kernel_rfl
noncomputable def o6 := ob Try.f109 [.r,.r,.l,.r,.l,.l,.r,.l,.l,.l]
def B6 (P : PT) (N2 : NTy k1 Pr) (x1 : Int) (x3 : Value) (x4 : Nat) (x12 : Int) (H : AHeap) : Prop :=
  ldI .i64 H x4 0 (fun v1 => ld1 H x4 1 (fun v2 => (AC Try.prog T0 153 [x3] H (fun v3 H4 => (ldI .i64 H4 x4 0 (fun v6 => ld1 H4 x4 1 (fun v7 => ((Value.agg ⟨[(Value.int .i64 v6), v7]⟩) = (Value.agg ⟨[(Value.int .i64 v1), v2]⟩)) ∧ (H4 = H4)))) ∧ (newK H4 [(Value.int .i64 x12)] 2 (fun b8 H9 => apK T0 2 H9 v3 (Value.slice (some ⟨b8, 0, none⟩) 1 (1 + 1)) (fun v10 H11 => (ldI .i64 H11 x4 0 (fun v12 => ld1 H11 x4 1 (fun v13 => ((Value.agg ⟨[(Value.int .i64 v12), v13]⟩) = (Value.agg ⟨[(Value.int .i64 v1), v2]⟩)) ∧ (H11 = H11)))) ∧ (AC Try.prog T0 109 [(Value.agg ⟨[(Value.int .i64 v1), v2]⟩), (Value.int .i64 (IntKind.i64.wrap (x1 - 1))), (Value.int .i64 (IntKind.i64.wrap (x12 + 1))), v10] H11 (fun v14 H15 => tup2 v14 (fun v16 v17 => asB v17 (fun v19 => B5 P N2 x1 x3 x4 x12 v16 v19 H15))))))))) ∧ (newK H [(Value.int .i64 x12)] 2 (fun b20 H21 => AC Try.prog T0 153 [x3] H21 (fun v22 H23 => (ldI .i64 H23 x4 0 (fun v25 => ld1 H23 x4 1 (fun v26 => ((Value.agg ⟨[(Value.int .i64 v25), v26]⟩) = (Value.agg ⟨[(Value.int .i64 v1), v2]⟩)) ∧ (H23 = H23)))) ∧ (apK T0 2 H23 v22 (Value.slice (some ⟨b20, 0, none⟩) 1 (1 + 1)) (fun v27 H28 => (ldI .i64 H28 x4 0 (fun v29 => ld1 H28 x4 1 (fun v30 => ((Value.agg ⟨[(Value.int .i64 v29), v30]⟩) = (Value.agg ⟨[(Value.int .i64 v1), v2]⟩)) ∧ (H28 = H28)))) ∧ (AC Try.prog T0 109 [(Value.agg ⟨[(Value.int .i64 v1), v2]⟩), (Value.int .i64 (IntKind.i64.wrap (x1 - 1))), (Value.int .i64 (IntKind.i64.wrap (x12 + 1))), v27] H28 (fun v31 H32 => tup2 v31 (fun v33 v34 => asB v34 (fun v36 => B5 P N2 x1 x3 x4 x12 v33 v36 H32)))))))))))
theorem q6 (P : PT) (N2 : NTy k1 Pr) : QT Try.prog T0 62 o6 (.op 0 [] (.op 1 [] (.op 2 [] (.op 3 [] (.op 4 [] (.op 5 [] (.op 7 [] (.alt (.op 6 [0] (.op 8 [] (.op 9 [0] (.op 10 [] (.op 11 [] (.op 12 [] (.op 13 [] (.op 14 [] (.op 15 [] .done))))))))) (.op 8 [] (.op 6 [0] (.op 9 [0] (.op 10 [] (.op 11 [] (.op 12 [] (.op 13 [] (.op 14 [] (.op 15 [] .done))))))))))))))))) (En 62 k3 (B5 P N2)) k1 (B6 P N2) := fun _ _ _ _ _ _  => by kernel_rfl
noncomputable def o7 := ob Try.f109 [.r,.r,.l,.r,.l,.l,.l,.l]
def B7 (P : PT) (N2 : NTy k1 Pr) (x1 : Int) (x3 : Value) (x4 : Nat) (x12 : Int) (H : AHeap) : Prop :=
  ld1 H x4 1 (fun v1 => lenK v1 (fun n2 => pif (decide ((x12 : Int) < (n2 : Int))) (B6 P N2 x1 x3 x4 x12 H) (B1 P H)))
theorem q7 (P : PT) (N2 : NTy k1 Pr) : QB Try.prog T0 62 o7 (cnd 43 (En 62 k1 (B6 P N2)) (En 62 k0 (B1 P))) k1 (B7 P N2) := fun _ _ _ _ _ _  => by kernel_rfl
def L2 (P : PT) (x1 : Int) (x3 : Value) (x4 : Nat) (x12 : Int) (H : AHeap) : Prop :=
  ∃ (I : NTy k1 Pr) (μ : NTy k1 (AHeap → Nat)), I x1 x3 x4 x12 H ∧ ∀ y1 y3 y4 y12 G, I y1 y3 y4 y12 G → B7 P (fun z1 z3 z4 z12 G' => I z1 z3 z4 z12 G' ∧ μ z1 z3 z4 z12 G' < μ y1 y3 y4 y12 G) y1 y3 y4 y12 G
theorem l2 (P : PT) : LQ k1 (L2 P) (B7 P) := fun ⟨_,_,_,_,_⟩ _ ⟨I, μ, h0, hI⟩ => ⟨apT _ I, apT _ μ, h0, fun ⟨_,_,_,_,_⟩ _ h => hI _ _ _ _ _  h⟩
abbrev k4 : Sk := [(1,.i .i64),(2,.i .i64),(3,.v),(4,.x)]
noncomputable def o8 := ob Try.f109 [.r,.r,.l,.l]
def B8 (P : PT) (x1 x2 : Int) (x3 : Value) (x4 : Nat) (H : AHeap) : Prop :=
  L2 P x1 x3 x4 x2 H
theorem q8 (P : PT) : QB Try.prog T0 62 o8 (En 62 k1 (L2 P)) k4 (B8 P) := fun _ _ _ _ _ _  => by kernel_rfl
abbrev k5 : Sk := [(3,.v),(4,.x),(10,.v)]
noncomputable def o9 := ob Try.f109 [.r,.l,.r,.l,.r,.r,.l]
def B9 (P : PT) (x3 : Value) (x4 : Nat) (x10 : Value) (H : AHeap) : Prop :=
  ldI .i64 H x4 0 (fun v1 => ld1 H x4 1 (fun v2 => newK H [] 2 (fun b3 H4 => AC Try.prog T0 152 [(Value.agg ⟨[(Value.int .i64 v1), v2]⟩), x10, (Value.slice (some ⟨b3, 0, none⟩) 0 (0 + 1))] H4 (fun v5 H6 => asB v5 (fun v7 => P (Value.tuple ⟨[x3, (Value.bool v7)]⟩) H6)))))
theorem q9 (P : PT) : QB Try.prog T0 62 o9 (ret P) k5 (B9 P) := fun _ _ _ _ _  => by kernel_rfl
abbrev k6 : Sk := [(3,.v),(4,.x),(10,.v),(11,.i .i64)]
noncomputable def o11 := ob Try.f109 [.r,.l,.r,.l,.r,.l,.r,.l,.l,.r,.r]
def B11 (P : PT) (N10 : NTy k6 Pr) (x3 : Value) (x4 : Nat) (x10 : Value) (x11 : Int) (H : AHeap) : Prop :=
  N10 x3 x4 x10 (IntKind.i64.wrap (x11 + 1)) H
theorem q11 (P : PT) (N10 : NTy k6 Pr) : QB Try.prog T0 62 o11 (En 62 k6 N10) k6 (B11 P N10) := fun _ _ _ _ _ _  => by kernel_rfl
noncomputable def o12 := ob Try.f109 [.r,.l,.r,.l,.r,.l,.r,.l,.l,.r,.l,.l]
def B12 (P : PT) (N10 : NTy k6 Pr) (x3 : Value) (x4 : Nat) (x10 : Value) (x11 : Int) (H : AHeap) : Prop :=
  idxK x3 x11 1 (fun b1 o2 => ldI .i64 H b1 o2 (fun v3 => idxK x10 v3 1 (fun b4 o5 => stK H b4 o5 [(Value.bool true)] (fun H6 => B11 P N10 x3 x4 x10 x11 H6))))
theorem q12 (P : PT) (N10 : NTy k6 Pr) : QB Try.prog T0 62 o12 (En 62 k6 (B11 P N10)) k6 (B12 P N10) := fun _ _ _ _ _ _  => by kernel_rfl
noncomputable def o13 := ob Try.f109 [.r,.l,.r,.l,.r,.l,.r,.l,.l,.l,.l]
def B13 (P : PT) (N10 : NTy k6 Pr) (x3 : Value) (x4 : Nat) (x10 : Value) (x11 : Int) (H : AHeap) : Prop :=
  lenK x3 (fun n1 => pif (decide ((x11 : Int) < (n1 : Int))) (B12 P N10 x3 x4 x10 x11 H) (B9 P x3 x4 x10 H))
theorem q13 (P : PT) (N10 : NTy k6 Pr) : QB Try.prog T0 62 o13 (cnd 24 (En 62 k6 (B12 P N10)) (En 62 k5 (B9 P))) k6 (B13 P N10) := fun _ _ _ _ _ _  => by kernel_rfl
def L10 (P : PT) (x3 : Value) (x4 : Nat) (x10 : Value) (x11 : Int) (H : AHeap) : Prop :=
  ∃ (I : NTy k6 Pr) (μ : NTy k6 (AHeap → Nat)), I x3 x4 x10 x11 H ∧ ∀ y3 y4 y10 y11 G, I y3 y4 y10 y11 G → B13 P (fun z3 z4 z10 z11 G' => I z3 z4 z10 z11 G' ∧ μ z3 z4 z10 z11 G' < μ y3 y4 y10 y11 G) y3 y4 y10 y11 G
theorem l10 (P : PT) : LQ k6 (L10 P) (B13 P) := fun ⟨_,_,_,_,_⟩ _ ⟨I, μ, h0, hI⟩ => ⟨apT _ I, apT _ μ, h0, fun ⟨_,_,_,_,_⟩ _ h => hI _ _ _ _ _  h⟩
noncomputable def o14 := ob Try.f109 [.r,.l,.r,.l,.r,.l,.l]
def B14 (P : PT) (x3 : Value) (x4 : Nat) (x10 : Value) (H : AHeap) : Prop :=
  L10 P x3 x4 x10 0 H
theorem q14 (P : PT) : QB Try.prog T0 62 o14 (En 62 k6 (L10 P)) k5 (B14 P) := fun _ _ _ _ _  => by kernel_rfl
abbrev k7 : Sk := [(3,.v),(4,.x)]
noncomputable def o15 := ob Try.f109 [.r,.l,.r,.l,.l]
def B15 (P : PT) (x3 : Value) (x4 : Nat) (H : AHeap) : Prop :=
  ld1 H x4 1 (fun v1 => lenK v1 (fun n2 => mkR H 1 4 [(Value.bool false)] (n2 : Int) (n2 : Int) (fun v4 H3 => B14 P x3 x4 v4 H3)))
theorem q15 (P : PT) : QB Try.prog T0 62 o15 (En 62 k5 (B14 P)) k7 (B15 P) := fun _ _ _ _  => by kernel_rfl
noncomputable def o16 := ob Try.f109 [.r,.l,.l]
def B16 (P : PT) (x1 x2 : Int) (x3 : Value) (x4 : Nat) (H : AHeap) : Prop :=
  pif ((x1 : Int) == 0) (B15 P x3 x4 H) (B8 P x1 x2 x3 x4 H)
theorem q16 (P : PT) : QB Try.prog T0 62 o16 (cnd 16 (En 62 k7 (B15 P)) (En 62 k4 (B8 P))) k4 (B16 P) := fun _ _ _ _ _ _  => by kernel_rfl
abbrev k8 : Sk := [(0,.g [.i,.v]),(1,.i .i64),(2,.i .i64),(3,.v)]
noncomputable def o17 := ob Try.f109 [.l]
def B17 (P : PT) (x0a : Int) (x0b : Value) (x1 x2 : Int) (x3 : Value) (H : AHeap) : Prop :=
  newK H [(Value.int .i64 x0a), x0b] 32 (fun b1 H2 => B16 P x1 x2 x3 b1 H2)
theorem q17 (P : PT) : QB Try.prog T0 62 o17 (En 62 k4 (B16 P)) k8 (B17 P) := fun _ _ _ _ _ _ _  => by kernel_rfl
noncomputable def code : Code := (.seq (.region 0 ⟨o17⟩ false) (.seq (.seq (.region 1 ⟨o16⟩ false) (.cond (.tmp 16) (.seq (.region 2 ⟨o15⟩ false) (.seq (.seq (.region 3 ⟨o14⟩ false) (.block 0 (.loop (.seq (.seq (.region 4 ⟨o13⟩ false) (.cond (.tmp 24) .skip (.exit 0))) (.seq (.block 1 (.region 6 ⟨o12⟩ false)) (.region 5 ⟨o11⟩ false)))))) (.seq (.region 7 ⟨o9⟩ false) .ret))) .skip)) (.seq (.seq (.region 8 ⟨o8⟩ false) (.block 2 (.loop (.seq (.seq (.region 9 ⟨o7⟩ false) (.cond (.tmp 43) .skip (.exit 2))) (.seq (.block 3 (.seq (.region 11 ⟨o6⟩ true) (.seq (.region 12 ⟨o5⟩ false) (.cond (.tmp 60) (.seq (.region 13 ⟨o4⟩ false) .ret) .skip)))) (.region 10 ⟨o3⟩ false)))))) (.seq (.region 14 ⟨o1⟩ false) .ret))))
theorem body : Try.f109.body = some code := by kernel_rfl
theorem main (P : PT) : ∀ env H, (En 62 k8 (B17 P)) env H → AW Try.prog T0 code env H (mkQ (ret P) (fun _ _ _ => False) (ret P)) :=
  (r_seq (rB T0_ok (q17 P)) (r_seq (r_seq (rB T0_ok (q16 P)) (r_cond rfl (r_seq (rB T0_ok (q15 P)) (r_seq (r_seq (rB T0_ok (q14 P)) (r_block (rL (l10 P) (fun N10 => (r_seq (r_seq (rB T0_ok (q13 P N10)) (r_cond rfl r_skip (r_exit (fun _ _ h => h)))) (r_seq (r_block (rB T0_ok (q12 P N10))) (rB T0_ok (q11 P N10)))))))) (r_seq (rB T0_ok (q9 P)) r_ret))) r_skip)) (r_seq (r_seq (rB T0_ok (q8 P)) (r_block (rL (l2 P) (fun N2 => (r_seq (r_seq (rB T0_ok (q7 P N2)) (r_cond rfl r_skip (r_exit (fun _ _ h => h)))) (r_seq (r_block (r_seq (rT T0_ok mixed (.op 0 [] (.op 1 [] (.op 2 [] (.op 3 [] (.op 4 [] (.op 5 [] (.op 7 [] (.alt (.op 6 [0] (.op 8 [] (.op 9 [0] (.op 10 [] (.op 11 [] (.op 12 [] (.op 13 [] (.op 14 [] (.op 15 [] .done))))))))) (.op 8 [] (.op 6 [0] (.op 9 [0] (.op 10 [] (.op 11 [] (.op 12 [] (.op 13 [] (.op 14 [] (.op 15 [] .done))))))))))))))))) (by kernel_rfl) (q6 P N2)) (r_seq (rB T0_ok (q5 P N2)) (r_cond rfl (r_seq (rB T0_ok (q4 P N2)) r_ret) r_skip)))) (rB T0_ok (q3 P N2)))))))) (r_seq (rB T0_ok (q1 P)) r_ret))))
theorem ac (P : PT) (x0a : Int) (x0b : Value) (x1 x2 : Int) (x3 : Value) (H : AHeap) (h : B17 P x0a x0b x1 x2 x3 H) : AC Try.prog T0 109 [(Value.agg ⟨[(Value.int .i64 x0a), x0b]⟩), (Value.int .i64 x1), (Value.int .i64 x2), x3] H P :=
  r_fn T0_ok (c := code) (n := 62) Try.func109 body (by kernel_rfl) (main P) (En_mk (x0a, x0b, x1, x2, x3, ()) (by kernel_rfl) ⟨by kernel_rfl, by kernel_rfl, by kernel_rfl, by kernel_rfl, trivial⟩ h)

end F109
-- (loop.example/g01329/impl.Graph).weak$1
namespace F110
noncomputable def ret (P : PT) : EP := retE T0 9 Try.f110 P
abbrev k0 : Sk := [(0,.i .u64),(2,.v)]
noncomputable def o1 := ob Try.f110 [.r,.r,.l]
def B1 (P : PT) (x0 : Int) (x2 : Value) (H : AHeap) : Prop :=
  asP x2 (fun b1 o2 => ldI .i64 H b1 o2 (fun v3 => ld1 H b1 (o2 + 1) (fun v4 => AC Try.prog T0 111 [(Value.agg ⟨[(Value.int .i64 v3), v4]⟩), (Value.int .u64 x0)] H (fun v5 H6 => asB v5 (fun v7 => P (Value.bool v7) H6)))))
theorem q1 (P : PT) : QB Try.prog T0 9 o1 (ret P) k0 (B1 P) := fun _ _ _ _  => by kernel_rfl
abbrev k1 : Sk := [(0,.i .u64),(1,.v),(2,.v)]
noncomputable def o2 := ob Try.f110 [.r,.l]
def B2 (P : PT) (x0 : Int) (x1 x2 : Value) (H : AHeap) : Prop :=
  asP x1 (fun b1 o2 => stK H b1 o2 [(Value.int .u64 x0)] (fun H3 => B1 P x0 x2 H3))
theorem q2 (P : PT) : QB Try.prog T0 9 o2 (En 9 k0 (B1 P)) k1 (B2 P) := fun _ _ _ _ _  => by kernel_rfl
noncomputable def o3 := ob Try.f110 [.l]
def B3 (P : PT) (x0 : Int) (x1 x2 : Value) (H : AHeap) : Prop :=
  B2 P x0 x1 x2 H
theorem q3 (P : PT) : QB Try.prog T0 9 o3 (En 9 k1 (B2 P)) k1 (B3 P) := fun _ _ _ _ _  => by kernel_rfl
noncomputable def code : Code := (.seq (.region 0 ⟨o3⟩ false) (.seq (.region 1 ⟨o2⟩ false) (.seq (.region 2 ⟨o1⟩ false) .ret)))
theorem body : Try.f110.body = some code := by kernel_rfl
theorem main (P : PT) : ∀ env H, (En 9 k1 (B3 P)) env H → AW Try.prog T0 code env H (mkQ (ret P) (fun _ _ _ => False) (ret P)) :=
  (r_seq (rB T0_ok (q3 P)) (r_seq (rB T0_ok (q2 P)) (r_seq (rB T0_ok (q1 P)) r_ret)))
theorem ac (P : PT) (x0 : Int) (x1 x2 : Value) (H : AHeap) (h : B3 P x0 x1 x2 H) : AC Try.prog T0 110 [(Value.int .u64 x0), x1, x2] H P :=
  r_fn T0_ok (c := code) (n := 9) Try.func110 body (by kernel_rfl) (main P) (En_mk (x0, x1, x2, ()) (by kernel_rfl) ⟨by kernel_rfl, by kernel_rfl, by kernel_rfl, trivial⟩ h)

end F110
-- (loop.example/g01329/impl.Graph).isPaintable
namespace F111
noncomputable def ret (P : PT) : EP := retE T0 15 Try.f111 P
abbrev k0 : Sk := [(2,.x),(5,.v)]
noncomputable def o1 := ob Try.f111 [.r,.r,.l]
def B1 (P : PT) (x2 : Nat) (x5 : Value) (H : AHeap) : Prop :=
  ldI .i64 H x2 0 (fun v1 => ld1 H x2 1 (fun v2 => AC Try.prog T0 154 [(Value.agg ⟨[(Value.int .i64 v1), v2]⟩), x5, (Value.bool false), (Value.func (.func 155) ⟨[]⟩ ⟨[]⟩)] H (fun v3 H4 => AC Try.prog T0 156 [v3] H4 (fun v6 H7 => asB v6 (fun v8 => P (Value.bool v8) H7)))))
theorem q1 (P : PT) : QB Try.prog T0 15 o1 (ret P) k0 (B1 P) := fun _ _ _ _  => by kernel_rfl
abbrev k1 : Sk := [(1,.i .u64),(2,.x)]
noncomputable def o2 := ob Try.f111 [.r,.l]
def B2 (P : PT) (x1 : Int) (x2 : Nat) (H : AHeap) : Prop :=
  ldI .i64 H x2 0 (fun v1 => ld1 H x2 1 (fun v2 => AC Try.prog T0 123 [(Value.agg ⟨[(Value.int .i64 v1), v2]⟩)] H (fun v3 H4 => asI .u64 v3 (fun v5 => AC Try.prog T0 73 [(Value.int .u64 (IntKind.u64.wrap (BitVec.ofInt 64 v5 &&& ~~~(BitVec.ofInt 64 x1)).toNat))] H4 (fun v6 H7 => B1 P x2 v6 H7)))))
theorem q2 (P : PT) : QB Try.prog T0 15 o2 (En 15 k0 (B1 P)) k1 (B2 P) := fun _ _ _ _  => by kernel_rfl
abbrev k2 : Sk := [(0,.g [.i,.v]),(1,.i .u64)]
noncomputable def o3 := ob Try.f111 [.l]
def B3 (P : PT) (x0a : Int) (x0b : Value) (x1 : Int) (H : AHeap) : Prop :=
  newK H [(Value.int .i64 x0a), x0b] 32 (fun b1 H2 => B2 P x1 b1 H2)
theorem q3 (P : PT) : QB Try.prog T0 15 o3 (En 15 k1 (B2 P)) k2 (B3 P) := fun _ _ _ _ _  => by kernel_rfl
noncomputable def code : Code := (.seq (.region 0 ⟨o3⟩ false) (.seq (.region 1 ⟨o2⟩ false) (.seq (.region 2 ⟨o1⟩ false) .ret)))
theorem body : Try.f111.body = some code := by kernel_rfl
theorem main (P : PT) : ∀ env H, (En 15 k2 (B3 P)) env H → AW Try.prog T0 code env H (mkQ (ret P) (fun _ _ _ => False) (ret P)) :=
  (r_seq (rB T0_ok (q3 P)) (r_seq (rB T0_ok (q2 P)) (r_seq (rB T0_ok (q1 P)) r_ret)))
theorem ac (P : PT) (x0a : Int) (x0b : Value) (x1 : Int) (H : AHeap) (h : B3 P x0a x0b x1 H) : AC Try.prog T0 111 [(Value.agg ⟨[(Value.int .i64 x0a), x0b]⟩), (Value.int .u64 x1)] H P :=
  r_fn T0_ok (c := code) (n := 15) Try.func111 body (by kernel_rfl) (main P) (En_mk (x0a, x0b, x1, ()) (by kernel_rfl) ⟨by kernel_rfl, by kernel_rfl, trivial⟩ h)

end F111
-- math/bits.OnesCount64
namespace F112
noncomputable def ret (P : PT) : EP := retE T0 35 Try.f112 P
abbrev k0 : Sk := [(0,.i .u64)]
noncomputable def o1 := ob Try.f112 [.r,.r,.r,.r,.r,.r,.r,.l]
def B1 (P : PT) (x0 : Int) (H : AHeap) : Prop :=
  P (Value.int .i64 (IntKind.i64.wrap (BitVec.ofInt 64 (IntKind.i64.wrap x0) &&& BitVec.ofInt 64 127).toNat)) H
theorem q1 (P : PT) : QB Try.prog T0 35 o1 (ret P) k0 (B1 P) := fun _ _ _  => by kernel_rfl
noncomputable def o2 := ob Try.f112 [.r,.r,.r,.r,.r,.r,.l]
def B2 (P : PT) (x0 : Int) (H : AHeap) : Prop :=
  ((0 : Int) ≤ 32) ∧ (B1 P (IntKind.u64.wrap (x0 + (Int.fdiv x0 (2 ^ (min (Int.toNat 32) 64))))) H)
theorem q2 (P : PT) : QB Try.prog T0 35 o2 (En 35 k0 (B1 P)) k0 (B2 P) := fun _ _ _  => by kernel_rfl
noncomputable def o3 := ob Try.f112 [.r,.r,.r,.r,.r,.l]
def B3 (P : PT) (x0 : Int) (H : AHeap) : Prop :=
  ((0 : Int) ≤ 16) ∧ (B2 P (IntKind.u64.wrap (x0 + (Int.fdiv x0 (2 ^ (min (Int.toNat 16) 64))))) H)
theorem q3 (P : PT) : QB Try.prog T0 35 o3 (En 35 k0 (B2 P)) k0 (B3 P) := fun _ _ _  => by kernel_rfl
noncomputable def o4 := ob Try.f112 [.r,.r,.r,.r,.l]
def B4 (P : PT) (x0 : Int) (H : AHeap) : Prop :=
  ((0 : Int) ≤ 8) ∧ (B3 P (IntKind.u64.wrap (x0 + (Int.fdiv x0 (2 ^ (min (Int.toNat 8) 64))))) H)
theorem q4 (P : PT) : QB Try.prog T0 35 o4 (En 35 k0 (B3 P)) k0 (B4 P) := fun _ _ _  => by kernel_rfl
noncomputable def o5 := ob Try.f112 [.r,.r,.r,.l]
def B5 (P : PT) (x0 : Int) (H : AHeap) : Prop :=
  ((0 : Int) ≤ 4) ∧ (B4 P (IntKind.u64.wrap (BitVec.ofInt 64 (IntKind.u64.wrap ((Int.fdiv x0 (2 ^ (min (Int.toNat 4) 64))) + x0)) &&& BitVec.ofInt 64 1085102592571150095).toNat) H)
theorem q5 (P : PT) : QB Try.prog T0 35 o5 (En 35 k0 (B4 P)) k0 (B5 P) := fun _ _ _  => by kernel_rfl
noncomputable def o6 := ob Try.f112 [.r,.r,.l]
def B6 (P : PT) (x0 : Int) (H : AHeap) : Prop :=
  ((0 : Int) ≤ 2) ∧ (B5 P (IntKind.u64.wrap ((IntKind.u64.wrap (BitVec.ofInt 64 (Int.fdiv x0 (2 ^ (min (Int.toNat 2) 64))) &&& BitVec.ofInt 64 3689348814741910323).toNat) + (IntKind.u64.wrap (BitVec.ofInt 64 x0 &&& BitVec.ofInt 64 3689348814741910323).toNat))) H)
theorem q6 (P : PT) : QB Try.prog T0 35 o6 (En 35 k0 (B5 P)) k0 (B6 P) := fun _ _ _  => by kernel_rfl
noncomputable def o7 := ob Try.f112 [.r,.l]
def B7 (P : PT) (x0 : Int) (H : AHeap) : Prop :=
  ((0 : Int) ≤ 1) ∧ (B6 P (IntKind.u64.wrap ((IntKind.u64.wrap (BitVec.ofInt 64 (Int.fdiv x0 (2 ^ (min (Int.toNat 1) 64))) &&& BitVec.ofInt 64 6148914691236517205).toNat) + (IntKind.u64.wrap (BitVec.ofInt 64 x0 &&& BitVec.ofInt 64 6148914691236517205).toNat))) H)
theorem q7 (P : PT) : QB Try.prog T0 35 o7 (En 35 k0 (B6 P)) k0 (B7 P) := fun _ _ _  => by kernel_rfl
noncomputable def o8 := ob Try.f112 [.l]
def B8 (P : PT) (x0 : Int) (H : AHeap) : Prop :=
  B7 P x0 H
theorem q8 (P : PT) : QB Try.prog T0 35 o8 (En 35 k0 (B7 P)) k0 (B8 P) := fun _ _ _  => by kernel_rfl
noncomputable def code : Code := (.seq (.region 0 ⟨o8⟩ false) (.seq (.region 1 ⟨o7⟩ false) (.seq (.region 2 ⟨o6⟩ false) (.seq (.region 3 ⟨o5⟩ false) (.seq (.region 4 ⟨o4⟩ false) (.seq (.region 5 ⟨o3⟩ false) (.seq (.region 6 ⟨o2⟩ false) (.seq (.region 7 ⟨o1⟩ false) .ret))))))))
theorem body : Try.f112.body = some code := by kernel_rfl
theorem main (P : PT) : ∀ env H, (En 35 k0 (B8 P)) env H → AW Try.prog T0 code env H (mkQ (ret P) (fun _ _ _ => False) (ret P)) :=
  (r_seq (rB T0_ok (q8 P)) (r_seq (rB T0_ok (q7 P)) (r_seq (rB T0_ok (q6 P)) (r_seq (rB T0_ok (q5 P)) (r_seq (rB T0_ok (q4 P)) (r_seq (rB T0_ok (q3 P)) (r_seq (rB T0_ok (q2 P)) (r_seq (rB T0_ok (q1 P)) r_ret))))))))
theorem ac (P : PT) (x0 : Int) (H : AHeap) (h : B8 P x0 H) : AC Try.prog T0 112 [(Value.int .u64 x0)] H P :=
  r_fn T0_ok (c := code) (n := 35) Try.func112 body (by kernel_rfl) (main P) (En_mk (x0, ()) (by kernel_rfl) ⟨by kernel_rfl, trivial⟩ h)

end F112
-- loop.example/g01329/impl.areAll[int]
namespace F117
noncomputable def ret (P : PT) : EP := retE T0 9 Try.f117 P
abbrev k0 : Sk := [(0,.v),(3,.x)]
noncomputable def o1 := ob Try.f117 [.r,.l]
def B1 (P : PT) (x0 : Value) (x3 : Nat) (H : AHeap) : Prop :=
  AC Try.prog T0 159 [x0, (Value.func (.func 160) ⟨[]⟩ ⟨[(Value.pointer (some ⟨x3, 0, none⟩))]⟩)] H (fun v1 H2 => asB v1 (fun v3 => P (Value.bool (!v3)) H2))
theorem q1 (P : PT) : QB Try.prog T0 9 o1 (ret P) k0 (B1 P) := fun _ _ _ _  => by kernel_rfl
abbrev k1 : Sk := [(0,.v),(1,.v)]
noncomputable def o2 := ob Try.f117 [.l]
def B2 (P : PT) (x0 x1 : Value) (H : AHeap) : Prop :=
  pif (Value.oneCell' x1) (newK H [x1] 123 (fun b1 H2 => B1 P x0 b1 H2)) False
theorem q2 (P : PT) : QB Try.prog T0 9 o2 (En 9 k0 (B1 P)) k1 (B2 P) := fun _ _ _ _  => by kernel_rfl
noncomputable def code : Code := (.seq (.region 0 ⟨o2⟩ false) (.seq (.region 1 ⟨o1⟩ false) .ret))
theorem body : Try.f117.body = some code := by kernel_rfl
theorem main (P : PT) : ∀ env H, (En 9 k1 (B2 P)) env H → AW Try.prog T0 code env H (mkQ (ret P) (fun _ _ _ => False) (ret P)) :=
  (r_seq (rB T0_ok (q2 P)) (r_seq (rB T0_ok (q1 P)) r_ret))
theorem ac (P : PT) (x0 x1 : Value) (H : AHeap) (h : B2 P x0 x1 H) : AC Try.prog T0 117 [x0, x1] H P :=
  r_fn T0_ok (c := code) (n := 9) Try.func117 body (by kernel_rfl) (main P) (En_mk (x0, x1, ()) (by kernel_rfl) ⟨by kernel_rfl, by kernel_rfl, trivial⟩ h)

end F117
-- (loop.example/g01329/impl.Graph).every
namespace F123
noncomputable def ret (P : PT) : EP := retE T0 8 Try.f123 P
abbrev k0 : Sk := [(1,.x)]
noncomputable def o1 := ob Try.f123 [.r,.l]
def B1 (P : PT) (x1 : Nat) (H : AHeap) : Prop :=
  ld1 H x1 1 (fun v1 => lenK v1 (fun n2 => ((0 : Int) ≤ (n2 : Int)) ∧ (P (Value.int .u64 (IntKind.u64.wrap ((IntKind.u64.wrap (1 * 2 ^ (min (Int.toNat (n2 : Int)) 64))) - 1))) H)))
theorem q1 (P : PT) : QB Try.prog T0 8 o1 (ret P) k0 (B1 P) := fun _ _ _  => by kernel_rfl
abbrev k1 : Sk := [(0,.g [.i,.v])]
noncomputable def o2 := ob Try.f123 [.l]
def B2 (P : PT) (x0a : Int) (x0b : Value) (H : AHeap) : Prop :=
  newK H [(Value.int .i64 x0a), x0b] 32 (fun b1 H2 => B1 P b1 H2)
theorem q2 (P : PT) : QB Try.prog T0 8 o2 (En 8 k0 (B1 P)) k1 (B2 P) := fun _ _ _ _  => by kernel_rfl
noncomputable def code : Code := (.seq (.region 0 ⟨o2⟩ false) (.seq (.region 1 ⟨o1⟩ false) .ret))
theorem body : Try.f123.body = some code := by kernel_rfl
theorem main (P : PT) : ∀ env H, (En 8 k1 (B2 P)) env H → AW Try.prog T0 code env H (mkQ (ret P) (fun _ _ _ => False) (ret P)) :=
  (r_seq (rB T0_ok (q2 P)) (r_seq (rB T0_ok (q1 P)) r_ret))
theorem ac (P : PT) (x0a : Int) (x0b : Value) (H : AHeap) (h : B2 P x0a x0b H) : AC Try.prog T0 123 [(Value.agg ⟨[(Value.int .i64 x0a), x0b]⟩)] H P :=
  r_fn T0_ok (c := code) (n := 8) Try.func123 body (by kernel_rfl) (main P) (En_mk (x0a, x0b, ()) (by kernel_rfl) ⟨by kernel_rfl, trivial⟩ h)

end F123
-- loop.example/g01329/impl.choose$1
namespace F127
noncomputable def ret (P : PT) : EP := retE T0 34 Try.f127 P
abbrev k0 : Sk := []
noncomputable def o1 := ob Try.f127 [.r,.r,.r,.l]
def B1 (P : PT) (H : AHeap) : Prop :=
  P (Value.bool false) H
theorem q1 (P : PT) : QB Try.prog T0 34 o1 (ret P) k0 (B1 P) := fun _ _  => by kernel_rfl
abbrev k1 : Sk := [(0,.i .u64),(2,.i .i64),(4,.v),(5,.v),(10,.i .i64)]
noncomputable def o3 := ob Try.f127 [.r,.r,.l,.r,.l,.l,.r,.r]
def B3 (P : PT) (N2 : NTy k1 Pr) (x0 x2 : Int) (x4 x5 : Value) (x10 : Int) (H : AHeap) : Prop :=
  N2 x0 x2 x4 x5 (IntKind.i64.wrap (x10 + 1)) H
theorem q3 (P : PT) (N2 : NTy k1 Pr) : QB Try.prog T0 34 o3 (En 34 k1 N2) k1 (B3 P N2) := fun _ _ _ _ _ _ _  => by kernel_rfl
noncomputable def o4 := ob Try.f127 [.r,.r,.l,.r,.l,.l,.r,.l,.l,.r,.l,.l]
def B4 (P : PT) (N2 : NTy k1 Pr) (H : AHeap) : Prop :=
  P (Value.bool true) H
theorem q4 (P : PT) (N2 : NTy k1 Pr) : QB Try.prog T0 34 o4 (ret P) k0 (B4 P N2) := fun _ _  => by kernel_rfl
noncomputable def o5 := ob Try.f127 [.r,.r,.l,.r,.l,.l,.r,.l,.l,.l]
def B5 (P : PT) (N2 : NTy k1 Pr) (x0 x2 : Int) (x4 x5 : Value) (x10 : Int) (H : AHeap) : Prop :=
  asP x5 (fun b1 o2 => ld1 H b1 o2 (fun v3 => ((0 : Int) ≤ x10) ∧ (callV Try.prog T0 v3 [(Value.int .u64 (IntKind.u64.wrap (BitVec.ofInt 64 x0 ||| BitVec.ofInt 64 (IntKind.u64.wrap (1 * 2 ^ (min (Int.toNat x10) 64)))).toNat)), (Value.int .i64 (IntKind.i64.wrap (x10 + 1))), (Value.int .i64 (IntKind.i64.wrap (x2 - 1)))] H (fun v4 H5 => asB v4 (fun v6 => pif v6 (B4 P N2 H5) (B3 P N2 x0 x2 x4 x5 x10 H5))))))
theorem q5 (P : PT) (N2 : NTy k1 Pr) : QD Try.prog T0 34 o5 [(0, false), (1, false), (2, false), (3, false), (4, false), (5, false), (6, false), (7, false), (8, false), (9, false)] (cnd 33 (En 34 k0 (B4 P N2)) (En 34 k1 (B3 P N2))) k1 (B5 P N2) := fun _ _ _ _ _ _ _  => by kernel_rfl
noncomputable def o6 := ob Try.f127 [.r,.r,.l,.r,.l,.l,.l,.l]
def B6 (P : PT) (N2 : NTy k1 Pr) (x0 x2 : Int) (x4 x5 : Value) (x10 : Int) (H : AHeap) : Prop :=
  asP x4 (fun b1 o2 => ldI .i64 H b1 o2 (fun v3 => pif (decide ((IntKind.i64.wrap (x10 + x2) : Int) ≤ v3)) (B5 P N2 x0 x2 x4 x5 x10 H) (B1 P H)))
theorem q6 (P : PT) (N2 : NTy k1 Pr) : QB Try.prog T0 34 o6 (cnd 21 (En 34 k1 (B5 P N2)) (En 34 k0 (B1 P))) k1 (B6 P N2) := fun _ _ _ _ _ _ _  => by kernel_rfl
def L2 (P : PT) (x0 x2 : Int) (x4 x5 : Value) (x10 : Int) (H : AHeap) : Prop :=
  ∃ (I : NTy k1 Pr) (μ : NTy k1 (AHeap → Nat)), I x0 x2 x4 x5 x10 H ∧ ∀ y0 y2 y4 y5 y10 G, I y0 y2 y4 y5 y10 G → B6 P (fun z0 z2 z4 z5 z10 G' => I z0 z2 z4 z5 z10 G' ∧ μ z0 z2 z4 z5 z10 G' < μ y0 y2 y4 y5 y10 G) y0 y2 y4 y5 y10 G
theorem l2 (P : PT) : LQ k1 (L2 P) (B6 P) := fun ⟨_,_,_,_,_,_⟩ _ ⟨I, μ, h0, hI⟩ => ⟨apT _ I, apT _ μ, h0, fun ⟨_,_,_,_,_,_⟩ _ h => hI _ _ _ _ _ _  h⟩
abbrev k2 : Sk := [(0,.i .u64),(1,.i .i64),(2,.i .i64),(4,.v),(5,.v)]
noncomputable def o7 := ob Try.f127 [.r,.r,.l,.l]
def B7 (P : PT) (x0 x1 x2 : Int) (x4 x5 : Value) (H : AHeap) : Prop :=
  L2 P x0 x2 x4 x5 x1 H
theorem q7 (P : PT) : QB Try.prog T0 34 o7 (En 34 k1 (L2 P)) k2 (B7 P) := fun _ _ _ _ _ _ _  => by kernel_rfl
abbrev k3 : Sk := [(0,.i .u64),(3,.v)]
noncomputable def o8 := ob Try.f127 [.r,.l,.r,.l,.l]
def B8 (P : PT) (x0 : Int) (x3 : Value) (H : AHeap) : Prop :=
  asP x3 (fun b1 o2 => ld1 H b1 o2 (fun v3 => callV Try.prog T0 v3 [(Value.int .u64 x0)] H (fun v4 H5 => asB v4 (fun v6 => P (Value.bool v6) H5))))
theorem q8 (P : PT) : QB Try.prog T0 34 o8 (ret P) k3 (B8 P) := fun _ _ _ _  => by kernel_rfl
abbrev k4 : Sk := [(0,.i .u64),(1,.i .i64),(2,.i .i64),(3,.v),(4,.v),(5,.v)]
noncomputable def o9 := ob Try.f127 [.r,.l,.l]
def B9 (P : PT) (x0 x1 x2 : Int) (x3 x4 x5 : Value) (H : AHeap) : Prop :=
  pif ((x2 : Int) == 0) (B8 P x0 x3 H) (B7 P x0 x1 x2 x4 x5 H)
theorem q9 (P : PT) : QB Try.prog T0 34 o9 (cnd 12 (En 34 k3 (B8 P)) (En 34 k2 (B7 P))) k4 (B9 P) := fun _ _ _ _ _ _ _ _  => by kernel_rfl
noncomputable def o10 := ob Try.f127 [.l]
def B10 (P : PT) (x0 x1 x2 : Int) (x3 x4 x5 : Value) (H : AHeap) : Prop :=
  B9 P x0 x1 x2 x3 x4 x5 H
theorem q10 (P : PT) : QB Try.prog T0 34 o10 (En 34 k4 (B9 P)) k4 (B10 P) := fun _ _ _ _ _ _ _ _  => by kernel_rfl
noncomputable def code : Code := (.seq (.region 0 ⟨o10⟩ false) (.seq (.seq (.region 1 ⟨o9⟩ false) (.cond (.tmp 12) (.seq (.region 2 ⟨o8⟩ false) .ret) .skip)) (.seq (.seq (.region 3 ⟨o7⟩ false) (.block 0 (.loop (.seq (.seq (.region 4 ⟨o6⟩ false) (.cond (.tmp 21) .skip (.exit 0))) (.seq (.block 1 (.seq (.region 6 ⟨o5⟩ true) (.cond (.tmp 33) (.seq (.region 7 ⟨o4⟩ false) .ret) .skip))) (.region 5 ⟨o3⟩ false)))))) (.seq (.region 8 ⟨o1⟩ false) .ret))))
theorem body : Try.f127.body = some code := by kernel_rfl
theorem main (P : PT) : ∀ env H, (En 34 k4 (B10 P)) env H → AW Try.prog T0 code env H (mkQ (ret P) (fun _ _ _ => False) (ret P)) :=
  (r_seq (rB T0_ok (q10 P)) (r_seq (r_seq (rB T0_ok (q9 P)) (r_cond rfl (r_seq (rB T0_ok (q8 P)) r_ret) r_skip)) (r_seq (r_seq (rB T0_ok (q7 P)) (r_block (rL (l2 P) (fun N2 => (r_seq (r_seq (rB T0_ok (q6 P N2)) (r_cond rfl r_skip (r_exit (fun _ _ h => h)))) (r_seq (r_block (r_seq (rD T0_ok mixed [(0, false), (1, false), (2, false), (3, false), (4, false), (5, false), (6, false), (7, false), (8, false), (9, false)] (by kernel_rfl) (q5 P N2)) (r_cond rfl (r_seq (rB T0_ok (q4 P N2)) r_ret) r_skip))) (rB T0_ok (q3 P N2)))))))) (r_seq (rB T0_ok (q1 P)) r_ret))))
theorem ac (P : PT) (x0 x1 x2 : Int) (x3 x4 x5 : Value) (H : AHeap) (h : B10 P x0 x1 x2 x3 x4 x5 H) : AC Try.prog T0 127 [(Value.int .u64 x0), (Value.int .i64 x1), (Value.int .i64 x2), x3, x4, x5] H P :=
  r_fn T0_ok (c := code) (n := 34) Try.func127 body (by kernel_rfl) (main P) (En_mk (x0, x1, x2, x3, x4, x5, ()) (by kernel_rfl) ⟨by kernel_rfl, by kernel_rfl, by kernel_rfl, by kernel_rfl, by kernel_rfl, by kernel_rfl, trivial⟩ h)

end F127
-- loop.example/g01329/impl.areEdges
namespace F144
noncomputable def ret (P : PT) : EP := retE T0 20 Try.f144 P
abbrev k0 : Sk := [(1,.v),(2,.x)]
noncomputable def o1 := ob Try.f144 [.r,.l]
def B1 (P : PT) (x1 : Value) (x2 : Nat) (H : AHeap) : Prop :=
  ldI .i64 H x2 0 (fun v1 => AC Try.prog T0 169 [(Value.int .i64 v1)] H (fun v2 H3 => asB v2 (fun v4 => pif v4 (ldI .i64 H3 x2 0 (fun v5 => AC Try.prog T0 85 [x1] H3 (fun v6 H7 => asI .i64 v6 (fun v8 => (AHeap.le H3 H7) ∧ (pif ((v8 : Int) == (IntKind.i64.wrap (Int.tdiv (IntKind.i64.wrap (3 * v5)) 2))) (AC Try.prog T0 145 [x1, (Value.func (.func 170) ⟨[]⟩ ⟨[(Value.pointer (some ⟨x2, 0, none⟩))]⟩)] H7 (fun v9 H10 => asB v9 (fun v11 => P (Value.bool v11) H10))) (P (Value.bool false) H7)))))) (P (Value.bool false) H3))))
theorem q1 (P : PT) : QD Try.prog T0 20 o1 [(0, false), (1, false), (2, false), (3, false), (5, false), (6, false), (7, false), (4, true), (8, false), (9, false), (10, false), (11, false), (12, false), (13, false), (14, false), (15, false)] (ret P) k0 (B1 P) := fun _ _ _ _  => by kernel_rfl
abbrev k1 : Sk := [(0,.i .i64),(1,.v)]
noncomputable def o2 := ob Try.f144 [.l]
def B2 (P : PT) (x0 : Int) (x1 : Value) (H : AHeap) : Prop :=
  newK H [(Value.int .i64 x0)] 2 (fun b1 H2 => B1 P x1 b1 H2)
theorem q2 (P : PT) : QB Try.prog T0 20 o2 (En 20 k0 (B1 P)) k1 (B2 P) := fun _ _ _ _  => by kernel_rfl
noncomputable def code : Code := (.seq (.region 0 ⟨o2⟩ false) (.seq (.region 1 ⟨o1⟩ true) .ret))
theorem body : Try.f144.body = some code := by kernel_rfl
theorem main (P : PT) : ∀ env H, (En 20 k1 (B2 P)) env H → AW Try.prog T0 code env H (mkQ (ret P) (fun _ _ _ => False) (ret P)) :=
  (r_seq (rB T0_ok (q2 P)) (r_seq (rD T0_ok mixed [(0, false), (1, false), (2, false), (3, false), (5, false), (6, false), (7, false), (4, true), (8, false), (9, false), (10, false), (11, false), (12, false), (13, false), (14, false), (15, false)] (by kernel_rfl) (q1 P)) r_ret))
theorem ac (P : PT) (x0 : Int) (x1 : Value) (H : AHeap) (h : B2 P x0 x1 H) : AC Try.prog T0 144 [(Value.int .i64 x0), x1] H P :=
  r_fn T0_ok (c := code) (n := 20) Try.func144 body (by kernel_rfl) (main P) (En_mk (x0, x1, ()) (by kernel_rfl) ⟨by kernel_rfl, by kernel_rfl, trivial⟩ h)

end F144
-- loop.example/g01329/impl.areAll[loop.example/g01329/impl.Edge]
namespace F145
noncomputable def ret (P : PT) : EP := retE T0 9 Try.f145 P
abbrev k0 : Sk := [(0,.v),(3,.x)]
noncomputable def o1 := ob Try.f145 [.r,.l]
def B1 (P : PT) (x0 : Value) (x3 : Nat) (H : AHeap) : Prop :=
  AC Try.prog T0 171 [x0, (Value.func (.func 172) ⟨[]⟩ ⟨[(Value.pointer (some ⟨x3, 0, none⟩))]⟩)] H (fun v1 H2 => asB v1 (fun v3 => P (Value.bool (!v3)) H2))
theorem q1 (P : PT) : QB Try.prog T0 9 o1 (ret P) k0 (B1 P) := fun _ _ _ _  => by kernel_rfl
abbrev k1 : Sk := [(0,.v),(1,.v)]
noncomputable def o2 := ob Try.f145 [.l]
def B2 (P : PT) (x0 x1 : Value) (H : AHeap) : Prop :=
  pif (Value.oneCell' x1) (newK H [x1] 139 (fun b1 H2 => B1 P x0 b1 H2)) False
theorem q2 (P : PT) : QB Try.prog T0 9 o2 (En 9 k0 (B1 P)) k1 (B2 P) := fun _ _ _ _  => by kernel_rfl
noncomputable def code : Code := (.seq (.region 0 ⟨o2⟩ false) (.seq (.region 1 ⟨o1⟩ false) .ret))
theorem body : Try.f145.body = some code := by kernel_rfl
theorem main (P : PT) : ∀ env H, (En 9 k1 (B2 P)) env H → AW Try.prog T0 code env H (mkQ (ret P) (fun _ _ _ => False) (ret P)) :=
  (r_seq (rB T0_ok (q2 P)) (r_seq (rB T0_ok (q1 P)) r_ret))
theorem ac (P : PT) (x0 x1 : Value) (H : AHeap) (h : B2 P x0 x1 H) : AC Try.prog T0 145 [x0, x1] H P :=
  r_fn T0_ok (c := code) (n := 9) Try.func145 body (by kernel_rfl) (main P) (En_mk (x0, x1, ()) (by kernel_rfl) ⟨by kernel_rfl, by kernel_rfl, trivial⟩ h)

end F145
-- loop.example/g01329/impl.IsGraph$1
namespace F146
noncomputable def ret (P : PT) : EP := retE T0 8 Try.f146 P
abbrev k0 : Sk := [(1,.x)]
noncomputable def o1 := ob Try.f146 [.r,.l]
def B1 (P : PT) (x1 : Nat) (H : AHeap) : Prop :=
  ldI .i64 H x1 0 (fun v1 => ldI .i64 H x1 1 (fun v2 => P (Value.bool (decide ((v1 : Int) < v2))) H))
theorem q1 (P : PT) : QB Try.prog T0 8 o1 (ret P) k0 (B1 P) := fun _ _ _  => by kernel_rfl
abbrev k1 : Sk := [(0,.g [.i,.i])]
noncomputable def o2 := ob Try.f146 [.l]
def B2 (P : PT) (x0a x0b : Int) (H : AHeap) : Prop :=
  newK H [(Value.int .i64 x0a), (Value.int .i64 x0b)] 100 (fun b1 H2 => B1 P b1 H2)
theorem q2 (P : PT) : QB Try.prog T0 8 o2 (En 8 k0 (B1 P)) k1 (B2 P) := fun _ _ _ _  => by kernel_rfl
noncomputable def code : Code := (.seq (.region 0 ⟨o2⟩ false) (.seq (.region 1 ⟨o1⟩ false) .ret))
theorem body : Try.f146.body = some code := by kernel_rfl
theorem main (P : PT) : ∀ env H, (En 8 k1 (B2 P)) env H → AW Try.prog T0 code env H (mkQ (ret P) (fun _ _ _ => False) (ret P)) :=
  (r_seq (rB T0_ok (q2 P)) (r_seq (rB T0_ok (q1 P)) r_ret))
theorem ac (P : PT) (x0a x0b : Int) (H : AHeap) (h : B2 P x0a x0b H) : AC Try.prog T0 146 [(Value.agg ⟨[(Value.int .i64 x0a), (Value.int .i64 x0b)]⟩)] H P :=
  r_fn T0_ok (c := code) (n := 8) Try.func146 body (by kernel_rfl) (main P) (En_mk (x0a, x0b, ()) (by kernel_rfl) ⟨by kernel_rfl, trivial⟩ h)

end F146
-- slices.IsSortedFunc[[]loop.example/g01329/impl.Edge,loop.example/g01329/impl.Edge]
namespace F147
noncomputable def ret (P : PT) : EP := retE T0 25 Try.f147 P
abbrev k0 : Sk := []
noncomputable def o1 := ob Try.f147 [.r,.r,.l]
def B1 (P : PT) (H : AHeap) : Prop :=
  P (Value.bool true) H
theorem q1 (P : PT) : QB Try.prog T0 25 o1 (ret P) k0 (B1 P) := fun _ _  => by kernel_rfl
abbrev k1 : Sk := [(0,.v),(1,.v),(5,.i .i64)]
noncomputable def o3 := ob Try.f147 [.r,.l,.r,.l,.l,.r,.r]
def B3 (P : PT) (N2 : NTy k1 Pr) (x0 x1 : Value) (x5 : Int) (H : AHeap) : Prop :=
  N2 x0 x1 (IntKind.i64.wrap (x5 - 1)) H
theorem q3 (P : PT) (N2 : NTy k1 Pr) : QB Try.prog T0 25 o3 (En 25 k1 N2) k1 (B3 P N2) := fun _ _ _ _ _  => by kernel_rfl
noncomputable def o4 := ob Try.f147 [.r,.l,.r,.l,.l,.r,.l,.l,.r,.l,.l]
def B4 (P : PT) (N2 : NTy k1 Pr) (H : AHeap) : Prop :=
  P (Value.bool false) H
theorem q4 (P : PT) (N2 : NTy k1 Pr) : QB Try.prog T0 25 o4 (ret P) k0 (B4 P N2) := fun _ _  => by kernel_rfl
noncomputable def o5 := ob Try.f147 [.r,.l,.r,.l,.l,.r,.l,.l,.l]
def B5 (P : PT) (N2 : NTy k1 Pr) (x0 x1 : Value) (x5 : Int) (H : AHeap) : Prop :=
  idxK x0 x5 2 (fun b1 o2 => ldI .i64 H b1 o2 (fun v3 => ldI .i64 H b1 (o2 + 1) (fun v4 => idxK x0 (IntKind.i64.wrap (x5 - 1)) 2 (fun b5 o6 => ldI .i64 H b5 o6 (fun v7 => ldI .i64 H b5 (o6 + 1) (fun v8 => callV Try.prog T0 x1 [(Value.agg ⟨[(Value.int .i64 v3), (Value.int .i64 v4)]⟩), (Value.agg ⟨[(Value.int .i64 v7), (Value.int .i64 v8)]⟩)] H (fun v9 H10 => asI .i64 v9 (fun v11 => pif (decide ((v11 : Int) < 0)) (B4 P N2 H10) (B3 P N2 x0 x1 x5 H10)))))))))
theorem q5 (P : PT) (N2 : NTy k1 Pr) : QD Try.prog T0 25 o5 [(0, false), (1, false), (2, false), (3, false), (4, false), (5, false), (6, false), (7, false), (8, false), (9, false), (10, false), (11, false)] (cnd 24 (En 25 k0 (B4 P N2)) (En 25 k1 (B3 P N2))) k1 (B5 P N2) := fun _ _ _ _ _  => by kernel_rfl
noncomputable def o6 := ob Try.f147 [.r,.l,.r,.l,.l,.l,.l]
def B6 (P : PT) (N2 : NTy k1 Pr) (x0 x1 : Value) (x5 : Int) (H : AHeap) : Prop :=
  pif (decide ((x5 : Int) > 0)) (B5 P N2 x0 x1 x5 H) (B1 P H)
theorem q6 (P : PT) (N2 : NTy k1 Pr) : QB Try.prog T0 25 o6 (cnd 10 (En 25 k1 (B5 P N2)) (En 25 k0 (B1 P))) k1 (B6 P N2) := fun _ _ _ _ _  => by kernel_rfl
def L2 (P : PT) (x0 x1 : Value) (x5 : Int) (H : AHeap) : Prop :=
  ∃ (I : NTy k1 Pr) (μ : NTy k1 (AHeap → Nat)), I x0 x1 x5 H ∧ ∀ y0 y1 y5 G, I y0 y1 y5 G → B6 P (fun z0 z1 z5 G' => I z0 z1 z5 G' ∧ μ z0 z1 z5 G' < μ y0 y1 y5 G) y0 y1 y5 G
theorem l2 (P : PT) : LQ k1 (L2 P) (B6 P) := fun ⟨_,_,_,_⟩ _ ⟨I, μ, h0, hI⟩ => ⟨apT _ I, apT _ μ, h0, fun ⟨_,_,_,_⟩ _ h => hI _ _ _ _  h⟩
abbrev k2 : Sk := [(0,.v),(1,.v)]
noncomputable def o7 := ob Try.f147 [.r,.l,.l]
def B7 (P : PT) (x0 x1 : Value) (H : AHeap) : Prop :=
  lenK x0 (fun n1 => L2 P x0 x1 (IntKind.i64.wrap ((n1 : Int) - 1)) H)
theorem q7 (P : PT) : QB Try.prog T0 25 o7 (En 25 k1 (L2 P)) k2 (B7 P) := fun _ _ _ _  => by kernel_rfl
noncomputable def o8 := ob Try.f147 [.l]
def B8 (P : PT) (x0 x1 : Value) (H : AHeap) : Prop :=
  B7 P x0 x1 H
theorem q8 (P : PT) : QB Try.prog T0 25 o8 (En 25 k2 (B7 P)) k2 (B8 P) := fun _ _ _ _  => by kernel_rfl
noncomputable def code : Code := (.seq (.region 0 ⟨o8⟩ false) (.seq (.seq (.region 1 ⟨o7⟩ false) (.block 0 (.loop (.seq (.seq (.region 2 ⟨o6⟩ false) (.cond (.tmp 10) .skip (.exit 0))) (.seq (.block 1 (.seq (.region 4 ⟨o5⟩ true) (.cond (.tmp 24) (.seq (.region 5 ⟨o4⟩ false) .ret) .skip))) (.region 3 ⟨o3⟩ false)))))) (.seq (.region 6 ⟨o1⟩ false) .ret)))
theorem body : Try.f147.body = some code := by kernel_rfl
theorem main (P : PT) : ∀ env H, (En 25 k2 (B8 P)) env H → AW Try.prog T0 code env H (mkQ (ret P) (fun _ _ _ => False) (ret P)) :=
  (r_seq (rB T0_ok (q8 P)) (r_seq (r_seq (rB T0_ok (q7 P)) (r_block (rL (l2 P) (fun N2 => (r_seq (r_seq (rB T0_ok (q6 P N2)) (r_cond rfl r_skip (r_exit (fun _ _ h => h)))) (r_seq (r_block (r_seq (rD T0_ok mixed [(0, false), (1, false), (2, false), (3, false), (4, false), (5, false), (6, false), (7, false), (8, false), (9, false), (10, false), (11, false)] (by kernel_rfl) (q5 P N2)) (r_cond rfl (r_seq (rB T0_ok (q4 P N2)) r_ret) r_skip))) (rB T0_ok (q3 P N2)))))))) (r_seq (rB T0_ok (q1 P)) r_ret)))
theorem ac (P : PT) (x0 x1 : Value) (H : AHeap) (h : B8 P x0 x1 H) : AC Try.prog T0 147 [x0, x1] H P :=
  r_fn T0_ok (c := code) (n := 25) Try.func147 body (by kernel_rfl) (main P) (En_mk (x0, x1, ()) (by kernel_rfl) ⟨by kernel_rfl, by kernel_rfl, trivial⟩ h)

end F147
-- loop.example/g01329/impl.compareEdges
namespace F148
noncomputable def ret (P : PT) : EP := retE T0 8 Try.f148 P
abbrev k0 : Sk := [(2,.x),(3,.x)]
noncomputable def o1 := ob Try.f148 [.r,.l]
def B1 (P : PT) (x2 x3 : Nat) (H : AHeap) : Prop :=
  AC Try.prog T0 173 [(Value.slice (some ⟨x2, 0, none⟩) 2 (2 + 1)), (Value.slice (some ⟨x3, 0, none⟩) 2 (2 + 1))] H (fun v1 H2 => asI .i64 v1 (fun v3 => P (Value.int .i64 v3) H2))
theorem q1 (P : PT) : QD Try.prog T0 8 o1 [(0, false), (1, false), (2, false), (3, false)] (ret P) k0 (B1 P) := fun _ _ _ _  => by kernel_rfl
abbrev k1 : Sk := [(0,.g [.i,.i]),(1,.g [.i,.i])]
noncomputable def o2 := ob Try.f148 [.l]
def B2 (P : PT) (x0a x0b x1a x1b : Int) (H : AHeap) : Prop :=
  newK H [(Value.int .i64 x0a), (Value.int .i64 x0b)] 100 (fun b1 H2 => newK H2 [(Value.int .i64 x1a), (Value.int .i64 x1b)] 100 (fun b3 H4 => B1 P b1 b3 H4))
theorem q2 (P : PT) : QB Try.prog T0 8 o2 (En 8 k0 (B1 P)) k1 (B2 P) := fun _ _ _ _ _ _  => by kernel_rfl
noncomputable def code : Code := (.seq (.region 0 ⟨o2⟩ false) (.seq (.region 1 ⟨o1⟩ true) .ret))
theorem body : Try.f148.body = some code := by kernel_rfl
theorem main (P : PT) : ∀ env H, (En 8 k1 (B2 P)) env H → AW Try.prog T0 code env H (mkQ (ret P) (fun _ _ _ => False) (ret P)) :=
  (r_seq (rB T0_ok (q2 P)) (r_seq (rD T0_ok mixed [(0, false), (1, false), (2, false), (3, false)] (by kernel_rfl) (q1 P)) r_ret))
theorem ac (P : PT) (x0a x0b x1a x1b : Int) (H : AHeap) (h : B2 P x0a x0b x1a x1b H) : AC Try.prog T0 148 [(Value.agg ⟨[(Value.int .i64 x0a), (Value.int .i64 x0b)]⟩), (Value.agg ⟨[(Value.int .i64 x1a), (Value.int .i64 x1b)]⟩)] H P :=
  r_fn T0_ok (c := code) (n := 8) Try.func148 body (by kernel_rfl) (main P) (En_mk (x0a, x0b, x1a, x1b, ()) (by kernel_rfl) ⟨by kernel_rfl, by kernel_rfl, trivial⟩ h)

end F148
-- loop.example/g01329/impl.isCubic
namespace F149
noncomputable def ret (P : PT) : EP := retE T0 33 Try.f149 P
abbrev k0 : Sk := [(5,.v)]
noncomputable def o1 := ob Try.f149 [.r,.r,.r,.l]
def B1 (P : PT) (x5 : Value) (H : AHeap) : Prop :=
  AC Try.prog T0 117 [x5, (Value.func (.func 174) ⟨[]⟩ ⟨[]⟩)] H (fun v1 H2 => asB v1 (fun v3 => P (Value.bool v3) H2))
theorem q1 (P : PT) : QB Try.prog T0 33 o1 (ret P) k0 (B1 P) := fun _ _ _  => by kernel_rfl
abbrev k1 : Sk := [(5,.v),(10,.v),(11,.i .i64),(12,.i .i64)]
noncomputable def o3 := ob Try.f149 [.r,.r,.l,.r,.l,.l,.r,.r,.r]
def B3 (P : PT) (N2 : NTy k1 Pr) (x5 x10 : Value) (x11 x12 : Int) (H : AHeap) : Prop :=
  N2 x5 x10 x11 (IntKind.i64.wrap (x12 + 1)) H
theorem q3 (P : PT) (N2 : NTy k1 Pr) : QB Try.prog T0 33 o3 (En 33 k1 N2) k1 (B3 P N2) := fun _ _ _ _ _ _  => by kernel_rfl
abbrev k2 : Sk := [(5,.v),(7,.x),(10,.v),(11,.i .i64),(12,.i .i64)]
noncomputable def o4 := ob Try.f149 [.r,.r,.l,.r,.l,.l,.r,.r,.l,.l,.r,.r]
def B4 (P : PT) (N2 : NTy k1 Pr) (x5 : Value) (x7 : Nat) (x10 : Value) (x11 x12 : Int) (H : AHeap) : Prop :=
  ldI .i64 H x7 1 (fun v1 => idxK x5 v1 1 (fun b2 o3 => ldI .i64 H b2 o3 (fun v4 => idxK x5 v1 1 (fun b5 o6 => stK H b5 o6 [(Value.int .i64 (IntKind.i64.wrap (v4 + 1)))] (fun H7 => B3 P N2 x5 x10 x11 x12 H7)))))
theorem q4 (P : PT) (N2 : NTy k1 Pr) : QB Try.prog T0 33 o4 (En 33 k1 (B3 P N2)) k2 (B4 P N2) := fun _ _ _ _ _ _ _  => by kernel_rfl
noncomputable def o5 := ob Try.f149 [.r,.r,.l,.r,.l,.l,.r,.r,.l,.l,.r,.l]
def B5 (P : PT) (N2 : NTy k1 Pr) (x5 : Value) (x7 : Nat) (x10 : Value) (x11 x12 : Int) (H : AHeap) : Prop :=
  ldI .i64 H x7 0 (fun v1 => idxK x5 v1 1 (fun b2 o3 => ldI .i64 H b2 o3 (fun v4 => idxK x5 v1 1 (fun b5 o6 => stK H b5 o6 [(Value.int .i64 (IntKind.i64.wrap (v4 + 1)))] (fun H7 => B4 P N2 x5 x7 x10 x11 x12 H7)))))
theorem q5 (P : PT) (N2 : NTy k1 Pr) : QB Try.prog T0 33 o5 (En 33 k2 (B4 P N2)) k2 (B5 P N2) := fun _ _ _ _ _ _ _  => by kernel_rfl
noncomputable def o6 := ob Try.f149 [.r,.r,.l,.r,.l,.l,.r,.r,.l,.l,.l]
def B6 (P : PT) (N2 : NTy k1 Pr) (x5 x10 : Value) (x11 x12 : Int) (H : AHeap) : Prop :=
  idxK x10 x12 2 (fun b1 o2 => ldI .i64 H b1 o2 (fun v3 => ldI .i64 H b1 (o2 + 1) (fun v4 => newK H [(Value.int .i64 0), (Value.int .i64 0)] 100 (fun b5 H6 => stK H6 b5 0 [(Value.int .i64 v3), (Value.int .i64 v4)] (fun H7 => B5 P N2 x5 b5 x10 x11 x12 H7)))))
theorem q6 (P : PT) (N2 : NTy k1 Pr) : QB Try.prog T0 33 o6 (En 33 k2 (B5 P N2)) k1 (B6 P N2) := fun _ _ _ _ _ _  => by kernel_rfl
noncomputable def o7 := ob Try.f149 [.r,.r,.l,.r,.l,.l,.l]
def B7 (P : PT) (N2 : NTy k1 Pr) (x5 x10 : Value) (x11 x12 : Int) (H : AHeap) : Prop :=
  pif (decide ((x12 : Int) < x11)) (B6 P N2 x5 x10 x11 x12 H) (B1 P x5 H)
theorem q7 (P : PT) (N2 : NTy k1 Pr) : QB Try.prog T0 33 o7 (cnd 13 (En 33 k1 (B6 P N2)) (En 33 k0 (B1 P))) k1 (B7 P N2) := fun _ _ _ _ _ _  => by kernel_rfl
def L2 (P : PT) (x5 x10 : Value) (x11 x12 : Int) (H : AHeap) : Prop :=
  ∃ (I : NTy k1 Pr) (μ : NTy k1 (AHeap → Nat)), I x5 x10 x11 x12 H ∧ ∀ y5 y10 y11 y12 G, I y5 y10 y11 y12 G → B7 P (fun z5 z10 z11 z12 G' => I z5 z10 z11 z12 G' ∧ μ z5 z10 z11 z12 G' < μ y5 y10 y11 y12 G) y5 y10 y11 y12 G
theorem l2 (P : PT) : LQ k1 (L2 P) (B7 P) := fun ⟨_,_,_,_,_⟩ _ ⟨I, μ, h0, hI⟩ => ⟨apT _ I, apT _ μ, h0, fun ⟨_,_,_,_,_⟩ _ h => hI _ _ _ _ _  h⟩
abbrev k3 : Sk := [(1,.v),(5,.v)]
noncomputable def o8 := ob Try.f149 [.r,.r,.l,.l]
def B8 (P : PT) (x1 x5 : Value) (H : AHeap) : Prop :=
  lenK x1 (fun n1 => L2 P x5 x1 (n1 : Int) 0 H)
theorem q8 (P : PT) : QB Try.prog T0 33 o8 (En 33 k1 (L2 P)) k3 (B8 P) := fun _ _ _ _  => by kernel_rfl
abbrev k4 : Sk := [(0,.i .i64),(1,.v)]
noncomputable def o9 := ob Try.f149 [.r,.l]
def B9 (P : PT) (x0 : Int) (x1 : Value) (H : AHeap) : Prop :=
  mkR H 8 3 [(Value.int .i64 0)] x0 x0 (fun v2 H1 => B8 P x1 v2 H1)
theorem q9 (P : PT) : QB Try.prog T0 33 o9 (En 33 k3 (B8 P)) k4 (B9 P) := fun _ _ _ _  => by kernel_rfl
noncomputable def o10 := ob Try.f149 [.l]
def B10 (P : PT) (x0 : Int) (x1 : Value) (H : AHeap) : Prop :=
  B9 P x0 x1 H
theorem q10 (P : PT) : QB Try.prog T0 33 o10 (En 33 k4 (B9 P)) k4 (B10 P) := fun _ _ _ _  => by kernel_rfl
noncomputable def code : Code := (.seq (.region 0 ⟨o10⟩ false) (.seq (.region 1 ⟨o9⟩ false) (.seq (.seq (.region 2 ⟨o8⟩ false) (.block 0 (.loop (.seq (.region 3 ⟨o7⟩ false) (.seq (.cond (.tmp 13) .skip (.exit 0)) (.seq (.block 1 (.seq (.region 4 ⟨o6⟩ false) (.seq (.region 5 ⟨o5⟩ false) (.region 6 ⟨o4⟩ false)))) (.region 7 ⟨o3⟩ false))))))) (.seq (.region 8 ⟨o1⟩ false) .ret))))
theorem body : Try.f149.body = some code := by kernel_rfl
theorem main (P : PT) : ∀ env H, (En 33 k4 (B10 P)) env H → AW Try.prog T0 code env H (mkQ (ret P) (fun _ _ _ => False) (ret P)) :=
  (r_seq (rB T0_ok (q10 P)) (r_seq (rB T0_ok (q9 P)) (r_seq (r_seq (rB T0_ok (q8 P)) (r_block (rL (l2 P) (fun N2 => (r_seq (rB T0_ok (q7 P N2)) (r_seq (r_cond rfl r_skip (r_exit (fun _ _ h => h))) (r_seq (r_block (r_seq (rB T0_ok (q6 P N2)) (r_seq (rB T0_ok (q5 P N2)) (rB T0_ok (q4 P N2))))) (rB T0_ok (q3 P N2))))))))) (r_seq (rB T0_ok (q1 P)) r_ret))))
theorem ac (P : PT) (x0 : Int) (x1 : Value) (H : AHeap) (h : B10 P x0 x1 H) : AC Try.prog T0 149 [(Value.int .i64 x0), x1] H P :=
  r_fn T0_ok (c := code) (n := 33) Try.func149 body (by kernel_rfl) (main P) (En_mk (x0, x1, ()) (by kernel_rfl) ⟨by kernel_rfl, by kernel_rfl, trivial⟩ h)

end F149
-- (loop.example/g01329/impl.Edge).isOn
namespace F151
noncomputable def ret (P : PT) : EP := retE T0 15 Try.f151 P
abbrev k0 : Sk := [(1,.i .i64),(2,.x)]
noncomputable def o1 := ob Try.f151 [.r,.l]
def B1 (P : PT) (x1 : Int) (x2 : Nat) (H : AHeap) : Prop :=
  ldI .i64 H x2 0 (fun v1 => pif ((v1 : Int) == x1) (P (Value.bool true) H) (ldI .i64 H x2 1 (fun v2 => P (Value.bool ((v2 : Int) == x1)) H)))
theorem q1 (P : PT) : QB Try.prog T0 15 o1 (ret P) k0 (B1 P) := fun _ _ _ _  => by kernel_rfl
abbrev k1 : Sk := [(0,.g [.i,.i]),(1,.i .i64)]
noncomputable def o2 := ob Try.f151 [.l]
def B2 (P : PT) (x0a x0b x1 : Int) (H : AHeap) : Prop :=
  newK H [(Value.int .i64 x0a), (Value.int .i64 x0b)] 100 (fun b1 H2 => B1 P x1 b1 H2)
theorem q2 (P : PT) : QB Try.prog T0 15 o2 (En 15 k0 (B1 P)) k1 (B2 P) := fun _ _ _ _ _  => by kernel_rfl
noncomputable def code : Code := (.seq (.region 0 ⟨o2⟩ false) (.seq (.region 1 ⟨o1⟩ false) .ret))
theorem body : Try.f151.body = some code := by kernel_rfl
theorem main (P : PT) : ∀ env H, (En 15 k1 (B2 P)) env H → AW Try.prog T0 code env H (mkQ (ret P) (fun _ _ _ => False) (ret P)) :=
  (r_seq (rB T0_ok (q2 P)) (r_seq (rB T0_ok (q1 P)) r_ret))
theorem ac (P : PT) (x0a x0b x1 : Int) (H : AHeap) (h : B2 P x0a x0b x1 H) : AC Try.prog T0 151 [(Value.agg ⟨[(Value.int .i64 x0a), (Value.int .i64 x0b)]⟩), (Value.int .i64 x1)] H P :=
  r_fn T0_ok (c := code) (n := 15) Try.func151 body (by kernel_rfl) (main P) (En_mk (x0a, x0b, x1, ()) (by kernel_rfl) ⟨by kernel_rfl, by kernel_rfl, trivial⟩ h)

end F151
-- loop.example/g01329/spec.l08Partial
namespace F152
noncomputable def ret (P : PT) : EP := retE T0 51 Try.f152 P
abbrev k0 : Sk := []
noncomputable def o1 := ob Try.f152 [.r,.r,.r,.r,.r,.l]
def B1 (P : PT) (H : AHeap) : Prop :=
  P (Value.bool false) H
theorem q1 (P : PT) : QB Try.prog T0 51 o1 (ret P) k0 (B1 P) := fun _ _  => by kernel_rfl
abbrev k1 : Sk := [(1,.v),(2,.v),(3,.x),(7,.i .i64),(8,.i .i64)]
noncomputable def o3 := ob Try.f152 [.r,.r,.r,.r,.l,.r,.l,.l,.r,.r]
def B3 (P : PT) (N2 : NTy k1 Pr) (x1 x2 : Value) (x3 : Nat) (x7 x8 : Int) (H : AHeap) : Prop :=
  N2 x1 x2 x3 x7 (IntKind.i64.wrap (x8 + 1)) H
theorem q3 (P : PT) (N2 : NTy k1 Pr) : QB Try.prog T0 51 o3 (En 51 k1 N2) k1 (B3 P N2) := fun _ _ _ _ _ _ _  => by kernel_rfl
noncomputable def o4 := ob Try.f152 [.r,.r,.r,.r,.l,.r,.l,.l,.r,.l,.l,.r,.l,.l]
def B4 (P : PT) (N2 : NTy k1 Pr) (H : AHeap) : Prop :=
  P (Value.bool true) H
theorem q4 (P : PT) (N2 : NTy k1 Pr) : QB Try.prog T0 51 o4 (ret P) k0 (B4 P N2) := fun _ _  => by kernel_rfl
noncomputable def o5 := ob Try.f152 [.r,.r,.r,.r,.l,.r,.l,.l,.r,.l,.l,.l]
def B5 (P : PT) (N2 : NTy k1 Pr) (x1 x2 : Value) (x3 : Nat) (x7 x8 : Int) (H : AHeap) : Prop :=
  ldI .i64 H x3 0 (fun v1 => ld1 H x3 1 (fun v2 => (AC Try.prog T0 153 [x2] H (fun v3 H4 => (ldI .i64 H4 x3 0 (fun v6 => ld1 H4 x3 1 (fun v7 => ((Value.agg ⟨[(Value.int .i64 v6), v7]⟩) = (Value.agg ⟨[(Value.int .i64 v1), v2]⟩)) ∧ (H4 = H4)))) ∧ (newK H4 [(Value.int .i64 x8)] 2 (fun b8 H9 => apK T0 2 H9 v3 (Value.slice (some ⟨b8, 0, none⟩) 1 (1 + 1)) (fun v10 H11 => (ldI .i64 H11 x3 0 (fun v12 => ld1 H11 x3 1 (fun v13 => ((Value.agg ⟨[(Value.int .i64 v12), v13]⟩) = (Value.agg ⟨[(Value.int .i64 v1), v2]⟩)) ∧ (H11 = H11)))) ∧ (AC Try.prog T0 175 [(Value.agg ⟨[(Value.int .i64 v1), v2]⟩), v10, (Value.int .i64 x7), (Value.int .i64 x8)] H11 (fun v14 H15 => asB v14 (fun v16 => pif v16 (ldI .i64 H15 x3 0 (fun v17 => ld1 H15 x3 1 (fun v18 => (AC Try.prog T0 153 [x2] H15 (fun v19 H20 => (ldI .i64 H20 x3 0 (fun v22 => ld1 H20 x3 1 (fun v23 => ((Value.agg ⟨[(Value.int .i64 v22), v23]⟩) = (Value.agg ⟨[(Value.int .i64 v17), v18]⟩)) ∧ (H20 = H20)))) ∧ (newK H20 [(Value.int .i64 x8)] 2 (fun b24 H25 => apK T0 2 H25 v19 (Value.slice (some ⟨b24, 0, none⟩) 1 (1 + 1)) (fun v26 H27 => (ldI .i64 H27 x3 0 (fun v28 => ld1 H27 x3 1 (fun v29 => ((Value.agg ⟨[(Value.int .i64 v28), v29]⟩) = (Value.agg ⟨[(Value.int .i64 v17), v18]⟩)) ∧ (H27 = H27)))) ∧ (AC Try.prog T0 152 [(Value.agg ⟨[(Value.int .i64 v17), v18]⟩), x1, v26] H27 (fun v30 H31 => asB v30 (fun v32 => pif v32 (B4 P N2 H31) (B3 P N2 x1 x2 x3 x7 x8 H31))))))))) ∧ (newK H15 [(Value.int .i64 x8)] 2 (fun b33 H34 => AC Try.prog T0 153 [x2] H34 (fun v35 H36 => (ldI .i64 H36 x3 0 (fun v38 => ld1 H36 x3 1 (fun v39 => ((Value.agg ⟨[(Value.int .i64 v38), v39]⟩) = (Value.agg ⟨[(Value.int .i64 v17), v18]⟩)) ∧ (H36 = H36)))) ∧ (apK T0 2 H36 v35 (Value.slice (some ⟨b33, 0, none⟩) 1 (1 + 1)) (fun v40 H41 => (ldI .i64 H41 x3 0 (fun v42 => ld1 H41 x3 1 (fun v43 => ((Value.agg ⟨[(Value.int .i64 v42), v43]⟩) = (Value.agg ⟨[(Value.int .i64 v17), v18]⟩)) ∧ (H41 = H41)))) ∧ (AC Try.prog T0 152 [(Value.agg ⟨[(Value.int .i64 v17), v18]⟩), x1, v40] H41 (fun v44 H45 => asB v44 (fun v46 => pif v46 (B4 P N2 H45) (B3 P N2 x1 x2 x3 x7 x8 H45)))))))))))) ((B3 P N2 x1 x2 x3 x7 x8 H15) ∧ (B3 P N2 x1 x2 x3 x7 x8 H15)))))))))) ∧ (newK H [(Value.int .i64 x8)] 2 (fun b47 H48 => AC Try.prog T0 153 [x2] H48 (fun v49 H50 => (ldI .i64 H50 x3 0 (fun v52 => ld1 H50 x3 1 (fun v53 => ((Value.agg ⟨[(Value.int .i64 v52), v53]⟩) = (Value.agg ⟨[(Value.int .i64 v1), v2]⟩)) ∧ (H50 = H50)))) ∧ (apK T0 2 H50 v49 (Value.slice (some ⟨b47, 0, none⟩) 1 (1 + 1)) (fun v54 H55 => (ldI .i64 H55 x3 0 (fun v56 => ld1 H55 x3 1 (fun v57 => ((Value.agg ⟨[(Value.int .i64 v56), v57]⟩) = (Value.agg ⟨[(Value.int .i64 v1), v2]⟩)) ∧ (H55 = H55)))) ∧ (AC Try.prog T0 175 [(Value.agg ⟨[(Value.int .i64 v1), v2]⟩), v54, (Value.int .i64 x7), (Value.int .i64 x8)] H55 (fun v58 H59 => asB v58 (fun v60 => pif v60 (ldI .i64 H59 x3 0 (fun v61 => ld1 H59 x3 1 (fun v62 => (AC Try.prog T0 153 [x2] H59 (fun v63 H64 => (ldI .i64 H64 x3 0 (fun v66 => ld1 H64 x3 1 (fun v67 => ((Value.agg ⟨[(Value.int .i64 v66), v67]⟩) = (Value.agg ⟨[(Value.int .i64 v61), v62]⟩)) ∧ (H64 = H64)))) ∧ (newK H64 [(Value.int .i64 x8)] 2 (fun b68 H69 => apK T0 2 H69 v63 (Value.slice (some ⟨b68, 0, none⟩) 1 (1 + 1)) (fun v70 H71 => (ldI .i64 H71 x3 0 (fun v72 => ld1 H71 x3 1 (fun v73 => ((Value.agg ⟨[(Value.int .i64 v72), v73]⟩) = (Value.agg ⟨[(Value.int .i64 v61), v62]⟩)) ∧ (H71 = H71)))) ∧ (AC Try.prog T0 152 [(Value.agg ⟨[(Value.int .i64 v61), v62]⟩), x1, v70] H71 (fun v74 H75 => asB v74 (fun v76 => pif v76 (B4 P N2 H75) (B3 P N2 x1 x2 x3 x7 x8 H75))))))))) ∧ (newK H59 [(Value.int .i64 x8)] 2 (fun b77 H78 => AC Try.prog T0 153 [x2] H78 (fun v79 H80 => (ldI .i64 H80 x3 0 (fun v82 => ld1 H80 x3 1 (fun v83 => ((Value.agg ⟨[(Value.int .i64 v82), v83]⟩) = (Value.agg ⟨[(Value.int .i64 v61), v62]⟩)) ∧ (H80 = H80)))) ∧ (apK T0 2 H80 v79 (Value.slice (some ⟨b77, 0, none⟩) 1 (1 + 1)) (fun v84 H85 => (ldI .i64 H85 x3 0 (fun v86 => ld1 H85 x3 1 (fun v87 => ((Value.agg ⟨[(Value.int .i64 v86), v87]⟩) = (Value.agg ⟨[(Value.int .i64 v61), v62]⟩)) ∧ (H85 = H85)))) ∧ (AC Try.prog T0 152 [(Value.agg ⟨[(Value.int .i64 v61), v62]⟩), x1, v84] H85 (fun v88 H89 => asB v88 (fun v90 => pif v90 (B4 P N2 H89) (B3 P N2 x1 x2 x3 x7 x8 H89)))))))))))) ((B3 P N2 x1 x2 x3 x7 x8 H59) ∧ (B3 P N2 x1 x2 x3 x7 x8 H59))))))))))))
theorem q5 (P : PT) (N2 : NTy k1 Pr) : QT Try.prog T0 51 o5 (.op 0 [] (.op 1 [] (.op 3 [] (.op 6 [] (.op 7 [] (.alt (.op 2 [0] (.op 4 [] (.op 5 [0] (.op 8 [] (.op 9 [] (.op 10 [] (.op 11 [] (.op 12 [] (.op 14 [] (.alt (.op 13 [10] (.op 15 [] (.op 16 [10] (.op 17 [] (.op 18 [] .done))))) (.op 15 [] (.op 13 [10] (.op 16 [10] (.op 17 [] (.op 18 [] .done))))))))))))))) (.op 4 [] (.op 2 [0] (.op 5 [0] (.op 8 [] (.op 9 [] (.op 10 [] (.op 11 [] (.op 12 [] (.op 14 [] (.alt (.op 13 [10] (.op 15 [] (.op 16 [10] (.op 17 [] (.op 18 [] .done))))) (.op 15 [] (.op 13 [10] (.op 16 [10] (.op 17 [] (.op 18 [] .done))))))))))))))))))))) (cnd 50 (En 51 k0 (B4 P N2)) (En 51 k1 (B3 P N2))) k1 (B5 P N2) := fun _ _ _ _ _ _ _  => by kernel_rfl
noncomputable def o6 := ob Try.f152 [.r,.r,.r,.r,.l,.r,.l,.l,.l,.l]
def B6 (P : PT) (N2 : NTy k1 Pr) (x1 x2 : Value) (x3 : Nat) (x7 x8 : Int) (H : AHeap) : Prop :=
  pif (decide ((x8 : Int) < 3)) (B5 P N2 x1 x2 x3 x7 x8 H) (B1 P H)
theorem q6 (P : PT) (N2 : NTy k1 Pr) : QB Try.prog T0 51 o6 (cnd 29 (En 51 k1 (B5 P N2)) (En 51 k0 (B1 P))) k1 (B6 P N2) := fun _ _ _ _ _ _ _  => by kernel_rfl
def L2 (P : PT) (x1 x2 : Value) (x3 : Nat) (x7 x8 : Int) (H : AHeap) : Prop :=
  ∃ (I : NTy k1 Pr) (μ : NTy k1 (AHeap → Nat)), I x1 x2 x3 x7 x8 H ∧ ∀ y1 y2 y3 y7 y8 G, I y1 y2 y3 y7 y8 G → B6 P (fun z1 z2 z3 z7 z8 G' => I z1 z2 z3 z7 z8 G' ∧ μ z1 z2 z3 z7 z8 G' < μ y1 y2 y3 y7 y8 G) y1 y2 y3 y7 y8 G
theorem l2 (P : PT) : LQ k1 (L2 P) (B6 P) := fun ⟨_,_,_,_,_,_⟩ _ ⟨I, μ, h0, hI⟩ => ⟨apT _ I, apT _ μ, h0, fun ⟨_,_,_,_,_,_⟩ _ h => hI _ _ _ _ _ _  h⟩
abbrev k2 : Sk := [(1,.v),(2,.v),(3,.x),(7,.i .i64)]
noncomputable def o7 := ob Try.f152 [.r,.r,.r,.r,.l,.l]
def B7 (P : PT) (x1 x2 : Value) (x3 : Nat) (x7 : Int) (H : AHeap) : Prop :=
  L2 P x1 x2 x3 x7 0 H
theorem q7 (P : PT) : QB Try.prog T0 51 o7 (En 51 k1 (L2 P)) k2 (B7 P) := fun _ _ _ _ _ _  => by kernel_rfl
abbrev k3 : Sk := [(1,.v),(2,.v),(3,.x)]
noncomputable def o8 := ob Try.f152 [.r,.r,.r,.l,.r,.l,.l]
def B8 (P : PT) (x1 x2 : Value) (x3 : Nat) (H : AHeap) : Prop :=
  ldI .i64 H x3 0 (fun v1 => ld1 H x3 1 (fun v2 => (AC Try.prog T0 153 [x2] H (fun v3 H4 => (ldI .i64 H4 x3 0 (fun v6 => ld1 H4 x3 1 (fun v7 => ((Value.agg ⟨[(Value.int .i64 v6), v7]⟩) = (Value.agg ⟨[(Value.int .i64 v1), v2]⟩)) ∧ (H4 = H4)))) ∧ (newK H4 [(Value.int .i64 (-1))] 2 (fun b8 H9 => apK T0 2 H9 v3 (Value.slice (some ⟨b8, 0, none⟩) 1 (1 + 1)) (fun v10 H11 => (ldI .i64 H11 x3 0 (fun v12 => ld1 H11 x3 1 (fun v13 => ((Value.agg ⟨[(Value.int .i64 v12), v13]⟩) = (Value.agg ⟨[(Value.int .i64 v1), v2]⟩)) ∧ (H11 = H11)))) ∧ (AC Try.prog T0 152 [(Value.agg ⟨[(Value.int .i64 v1), v2]⟩), x1, v10] H11 (fun v14 H15 => asB v14 (fun v16 => P (Value.bool v16) H15)))))))) ∧ (newK H [(Value.int .i64 (-1))] 2 (fun b17 H18 => AC Try.prog T0 153 [x2] H18 (fun v19 H20 => (ldI .i64 H20 x3 0 (fun v22 => ld1 H20 x3 1 (fun v23 => ((Value.agg ⟨[(Value.int .i64 v22), v23]⟩) = (Value.agg ⟨[(Value.int .i64 v1), v2]⟩)) ∧ (H20 = H20)))) ∧ (apK T0 2 H20 v19 (Value.slice (some ⟨b17, 0, none⟩) 1 (1 + 1)) (fun v24 H25 => (ldI .i64 H25 x3 0 (fun v26 => ld1 H25 x3 1 (fun v27 => ((Value.agg ⟨[(Value.int .i64 v26), v27]⟩) = (Value.agg ⟨[(Value.int .i64 v1), v2]⟩)) ∧ (H25 = H25)))) ∧ (AC Try.prog T0 152 [(Value.agg ⟨[(Value.int .i64 v1), v2]⟩), x1, v24] H25 (fun v28 H29 => asB v28 (fun v30 => P (Value.bool v30) H29))))))))))
theorem q8 (P : PT) : QT Try.prog T0 51 o8 (.op 0 [] (.op 1 [] (.op 2 [] (.alt (.op 3 [0] (.op 4 [] (.op 5 [0] (.op 6 [] (.op 7 [] .done))))) (.op 4 [] (.op 3 [0] (.op 5 [0] (.op 6 [] (.op 7 [] .done))))))))) (ret P) k3 (B8 P) := fun _ _ _ _ _  => by kernel_rfl
noncomputable def o9 := ob Try.f152 [.r,.r,.r,.l,.l]
def B9 (P : PT) (x1 x2 : Value) (x3 : Nat) (x7 : Int) (H : AHeap) : Prop :=
  idxK x1 x7 1 (fun b1 o2 => ld1 H b1 o2 (fun v4 => asB v4 (fun v3 => pif v3 (B8 P x1 x2 x3 H) (B7 P x1 x2 x3 x7 H))))
theorem q9 (P : PT) : QB Try.prog T0 51 o9 (cnd 20 (En 51 k3 (B8 P)) (En 51 k2 (B7 P))) k2 (B9 P) := fun _ _ _ _ _ _  => by kernel_rfl
noncomputable def o10 := ob Try.f152 [.r,.r,.l,.r,.l,.l]
def B10 (P : PT) (H : AHeap) : Prop :=
  P (Value.bool true) H
theorem q10 (P : PT) : QB Try.prog T0 51 o10 (ret P) k0 (B10 P) := fun _ _  => by kernel_rfl
noncomputable def o11 := ob Try.f152 [.r,.r,.l,.l]
def B11 (P : PT) (x1 x2 : Value) (x3 : Nat) (x7 : Int) (H : AHeap) : Prop :=
  lenK x2 (fun n1 => ld1 H x3 1 (fun v2 => lenK v2 (fun n3 => pif (((n1 : Int) : Int) == (n3 : Int)) (B10 P H) (B9 P x1 x2 x3 x7 H))))
theorem q11 (P : PT) : QB Try.prog T0 51 o11 (cnd 16 (En 51 k0 (B10 P)) (En 51 k2 (B9 P))) k2 (B11 P) := fun _ _ _ _ _ _  => by kernel_rfl
noncomputable def o12 := ob Try.f152 [.r,.l]
def B12 (P : PT) (x1 x2 : Value) (x3 : Nat) (H : AHeap) : Prop :=
  lenK x2 (fun n1 => B11 P x1 x2 x3 (n1 : Int) H)
theorem q12 (P : PT) : QB Try.prog T0 51 o12 (En 51 k2 (B11 P)) k3 (B12 P) := fun _ _ _ _ _  => by kernel_rfl
abbrev k4 : Sk := [(0,.g [.i,.v]),(1,.v),(2,.v)]
noncomputable def o13 := ob Try.f152 [.l]
def B13 (P : PT) (x0a : Int) (x0b x1 x2 : Value) (H : AHeap) : Prop :=
  newK H [(Value.int .i64 x0a), x0b] 32 (fun b1 H2 => B12 P x1 x2 b1 H2)
theorem q13 (P : PT) : QB Try.prog T0 51 o13 (En 51 k3 (B12 P)) k4 (B13 P) := fun _ _ _ _ _ _  => by kernel_rfl
noncomputable def code : Code := (.seq (.region 0 ⟨o13⟩ false) (.seq (.region 1 ⟨o12⟩ false) (.seq (.seq (.region 2 ⟨o11⟩ false) (.cond (.tmp 16) (.seq (.region 3 ⟨o10⟩ false) .ret) .skip)) (.seq (.seq (.region 4 ⟨o9⟩ false) (.cond (.tmp 20) (.seq (.region 5 ⟨o8⟩ true) .ret) .skip)) (.seq (.seq (.region 6 ⟨o7⟩ false) (.block 0 (.loop (.seq (.seq (.region 7 ⟨o6⟩ false) (.cond (.tmp 29) .skip (.exit 0))) (.seq (.block 1 (.seq (.region 9 ⟨o5⟩ true) (.cond (.tmp 50) (.seq (.region 10 ⟨o4⟩ false) .ret) .skip))) (.region 8 ⟨o3⟩ false)))))) (.seq (.region 11 ⟨o1⟩ false) .ret))))))
theorem body : Try.f152.body = some code := by kernel_rfl
theorem main (P : PT) : ∀ env H, (En 51 k4 (B13 P)) env H → AW Try.prog T0 code env H (mkQ (ret P) (fun _ _ _ => False) (ret P)) :=
  (r_seq (rB T0_ok (q13 P)) (r_seq (rB T0_ok (q12 P)) (r_seq (r_seq (rB T0_ok (q11 P)) (r_cond rfl (r_seq (rB T0_ok (q10 P)) r_ret) r_skip)) (r_seq (r_seq (rB T0_ok (q9 P)) (r_cond rfl (r_seq (rT T0_ok mixed (.op 0 [] (.op 1 [] (.op 2 [] (.alt (.op 3 [0] (.op 4 [] (.op 5 [0] (.op 6 [] (.op 7 [] .done))))) (.op 4 [] (.op 3 [0] (.op 5 [0] (.op 6 [] (.op 7 [] .done))))))))) (by kernel_rfl) (q8 P)) r_ret) r_skip)) (r_seq (r_seq (rB T0_ok (q7 P)) (r_block (rL (l2 P) (fun N2 => (r_seq (r_seq (rB T0_ok (q6 P N2)) (r_cond rfl r_skip (r_exit (fun _ _ h => h)))) (r_seq (r_block (r_seq (rT T0_ok mixed (.op 0 [] (.op 1 [] (.op 3 [] (.op 6 [] (.op 7 [] (.alt (.op 2 [0] (.op 4 [] (.op 5 [0] (.op 8 [] (.op 9 [] (.op 10 [] (.op 11 [] (.op 12 [] (.op 14 [] (.alt (.op 13 [10] (.op 15 [] (.op 16 [10] (.op 17 [] (.op 18 [] .done))))) (.op 15 [] (.op 13 [10] (.op 16 [10] (.op 17 [] (.op 18 [] .done))))))))))))))) (.op 4 [] (.op 2 [0] (.op 5 [0] (.op 8 [] (.op 9 [] (.op 10 [] (.op 11 [] (.op 12 [] (.op 14 [] (.alt (.op 13 [10] (.op 15 [] (.op 16 [10] (.op 17 [] (.op 18 [] .done))))) (.op 15 [] (.op 13 [10] (.op 16 [10] (.op 17 [] (.op 18 [] .done))))))))))))))))))))) (by kernel_rfl) (q5 P N2)) (r_cond rfl (r_seq (rB T0_ok (q4 P N2)) r_ret) r_skip))) (rB T0_ok (q3 P N2)))))))) (r_seq (rB T0_ok (q1 P)) r_ret))))))
theorem ac (P : PT) (x0a : Int) (x0b x1 x2 : Value) (H : AHeap) (h : B13 P x0a x0b x1 x2 H) : AC Try.prog T0 152 [(Value.agg ⟨[(Value.int .i64 x0a), x0b]⟩), x1, x2] H P :=
  r_fn T0_ok (c := code) (n := 51) Try.func152 body (by kernel_rfl) (main P) (En_mk (x0a, x0b, x1, x2, ()) (by kernel_rfl) ⟨by kernel_rfl, by kernel_rfl, by kernel_rfl, trivial⟩ h)

end F152
-- loop.example/g01329/spec.l01Own
namespace F153
noncomputable def ret (P : PT) : EP := retE T0 6 Try.f153 P
abbrev k0 : Sk := [(0,.v)]
noncomputable def o1 := ob Try.f153 [.r,.l]
def B1 (P : PT) (x0 : Value) (H : AHeap) : Prop :=
  newK H [] 2 (fun b1 H2 => apK T0 2 H2 (Value.slice (some ⟨b1, 0, none⟩) 0 (0 + 1)) x0 (fun v3 H4 => P v3 H4))
theorem q1 (P : PT) : QB Try.prog T0 6 o1 (ret P) k0 (B1 P) := fun _ _ _  => by kernel_rfl
noncomputable def o2 := ob Try.f153 [.l]
def B2 (P : PT) (x0 : Value) (H : AHeap) : Prop :=
  B1 P x0 H
theorem q2 (P : PT) : QB Try.prog T0 6 o2 (En 6 k0 (B1 P)) k0 (B2 P) := fun _ _ _  => by kernel_rfl
noncomputable def code : Code := (.seq (.region 0 ⟨o2⟩ false) (.seq (.region 1 ⟨o1⟩ false) .ret))
theorem body : Try.f153.body = some code := by kernel_rfl
theorem main (P : PT) : ∀ env H, (En 6 k0 (B2 P)) env H → AW Try.prog T0 code env H (mkQ (ret P) (fun _ _ _ => False) (ret P)) :=
  (r_seq (rB T0_ok (q2 P)) (r_seq (rB T0_ok (q1 P)) r_ret))
theorem ac (P : PT) (x0 : Value) (H : AHeap) (h : B2 P x0 H) : AC Try.prog T0 153 [x0] H P :=
  r_fn T0_ok (c := code) (n := 6) Try.func153 body (by kernel_rfl) (main P) (En_mk (x0, ()) (by kernel_rfl) ⟨by kernel_rfl, trivial⟩ h)

end F153
-- loop.example/g01329/impl.painterOf
namespace F154
noncomputable def ret (P : PT) : EP := retE T0 40 Try.f154 P
abbrev k0 : Sk := [(9,.v)]
noncomputable def o1 := ob Try.f154 [.r,.r,.r,.l]
def B1 (P : PT) (x9 : Value) (H : AHeap) : Prop :=
  P x9 H
theorem q1 (P : PT) : QB Try.prog T0 40 o1 (ret P) k0 (B1 P) := fun _ _ _  => by kernel_rfl
abbrev k1 : Sk := [(9,.v),(27,.v),(28,.i .i64),(29,.i .i64)]
noncomputable def o3 := ob Try.f154 [.r,.r,.l,.r,.l,.r,.l,.l,.r,.r,.r]
def B3 (P : PT) (N2 : NTy k1 Pr) (x9 x27 : Value) (x28 x29 : Int) (H : AHeap) : Prop :=
  N2 x9 x27 x28 (IntKind.i64.wrap (x29 + 1)) H
theorem q3 (P : PT) (N2 : NTy k1 Pr) : QB Try.prog T0 40 o3 (En 40 k1 N2) k1 (B3 P N2) := fun _ _ _ _ _ _  => by kernel_rfl
abbrev k2 : Sk := [(9,.v),(10,.i .i64),(11,.i .i64),(27,.v),(28,.i .i64),(29,.i .i64)]
noncomputable def o4 := ob Try.f154 [.r,.r,.l,.r,.l,.r,.l,.l,.r,.r,.l,.l,.r]
def B4 (P : PT) (N2 : NTy k1 Pr) (x9 : Value) (x10 x11 : Int) (x27 : Value) (x28 x29 : Int) (H : AHeap) : Prop :=
  AC Try.prog T0 177 [x9, (Value.int .i64 x11), (Value.int .i64 x10)] H (fun v1 H2 => asTup v1 (fun l3 => B3 P N2 x9 x27 x28 x29 H2))
theorem q4 (P : PT) (N2 : NTy k1 Pr) : QB Try.prog T0 40 o4 (En 40 k1 (B3 P N2)) k2 (B4 P N2) := fun _ _ _ _ _ _ _ _  => by kernel_rfl
noncomputable def o5 := ob Try.f154 [.r,.r,.l,.r,.l,.r,.l,.l,.r,.r,.l,.l,.l]
def B5 (P : PT) (N2 : NTy k1 Pr) (x9 x27 : Value) (x28 x29 : Int) (H : AHeap) : Prop :=
  idxK x27 x29 1 (fun b1 o2 => ldI .i64 H b1 o2 (fun v3 => B4 P N2 x9 x29 v3 x27 x28 x29 H))
theorem q5 (P : PT) (N2 : NTy k1 Pr) : QB Try.prog T0 40 o5 (En 40 k2 (B4 P N2)) k1 (B5 P N2) := fun _ _ _ _ _ _  => by kernel_rfl
noncomputable def o6 := ob Try.f154 [.r,.r,.l,.r,.l,.r,.l,.l,.l]
def B6 (P : PT) (N2 : NTy k1 Pr) (x9 x27 : Value) (x28 x29 : Int) (H : AHeap) : Prop :=
  pif (decide ((x29 : Int) < x28)) (B5 P N2 x9 x27 x28 x29 H) (B1 P x9 H)
theorem q6 (P : PT) (N2 : NTy k1 Pr) : QB Try.prog T0 40 o6 (cnd 30 (En 40 k1 (B5 P N2)) (En 40 k0 (B1 P))) k1 (B6 P N2) := fun _ _ _ _ _ _  => by kernel_rfl
def L2 (P : PT) (x9 x27 : Value) (x28 x29 : Int) (H : AHeap) : Prop :=
  ∃ (I : NTy k1 Pr) (μ : NTy k1 (AHeap → Nat)), I x9 x27 x28 x29 H ∧ ∀ y9 y27 y28 y29 G, I y9 y27 y28 y29 G → B6 P (fun z9 z27 z28 z29 G' => I z9 z27 z28 z29 G' ∧ μ z9 z27 z28 z29 G' < μ y9 y27 y28 y29 G) y9 y27 y28 y29 G
theorem l2 (P : PT) : LQ k1 (L2 P) (B6 P) := fun ⟨_,_,_,_,_⟩ _ ⟨I, μ, h0, hI⟩ => ⟨apT _ I, apT _ μ, h0, fun ⟨_,_,_,_,_⟩ _ h => hI _ _ _ _ _  h⟩
abbrev k3 : Sk := [(4,.x),(9,.v)]
noncomputable def o7 := ob Try.f154 [.r,.r,.l,.r,.l,.l]
def B7 (P : PT) (x4 : Nat) (x9 : Value) (H : AHeap) : Prop :=
  ldI .i64 H x4 0 (fun v1 => ld1 H x4 1 (fun v2 => AC Try.prog T0 105 [(Value.agg ⟨[(Value.int .i64 v1), v2]⟩), (Value.int .i64 0)] H (fun v3 H4 => lenK v3 (fun n6 => L2 P x9 v3 (n6 : Int) 0 H4))))
theorem q7 (P : PT) : QB Try.prog T0 40 o7 (En 40 k1 (L2 P)) k3 (B7 P) := fun _ _ _ _  => by kernel_rfl
abbrev k4 : Sk := [(2,.b),(4,.x),(9,.v)]
noncomputable def o8 := ob Try.f154 [.r,.r,.l,.l]
def B8 (P : PT) (x2 : Bool) (x4 : Nat) (x9 : Value) (H : AHeap) : Prop :=
  pif x2 (B7 P x4 x9 H) (B1 P x9 H)
theorem q8 (P : PT) : QB Try.prog T0 40 o8 (cnd 25 (En 40 k3 (B7 P)) (En 40 k0 (B1 P))) k4 (B8 P) := fun _ _ _ _ _  => by kernel_rfl
abbrev k5 : Sk := [(1,.v),(2,.b),(3,.v),(4,.x)]
noncomputable def o9 := ob Try.f154 [.r,.l]
def B9 (P : PT) (x1 : Value) (x2 : Bool) (x3 : Value) (x4 : Nat) (H : AHeap) : Prop :=
  ldI .i64 H x4 0 (fun v1 => ld1 H x4 1 (fun v2 => ld1 H x4 1 (fun v3 => lenK v3 (fun n4 => ldI .i64 H x4 0 (fun v5 => (newK H [(Value.int .i64 (-1))] 2 (fun b6 H7 => (AC Try.prog T0 176 [(Value.slice (some ⟨b6, 0, none⟩) 1 (1 + 1)), (Value.int .i64 (n4 : Int))] H7 (fun v8 H9 => (ldI .i64 H9 x4 0 (fun v11 => ld1 H9 x4 1 (fun v12 => ((Value.agg ⟨[(Value.int .i64 v11), v12]⟩) = (Value.agg ⟨[(Value.int .i64 v1), v2]⟩)) ∧ (H9 = H9)))) ∧ ((ldI .i64 H9 x4 0 (fun v13 => ((Value.int .i64 v13) = (Value.int .i64 v5)) ∧ (H9 = H9))) ∧ (mkR H9 8 72 [(Value.int .u64 0)] v5 v5 (fun v15 H14 => pif (Value.oneCell' x1) (pif (Value.oneCell' v8) (pif (Value.oneCell' v15) (pif (Value.oneCell' x3) (newK H14 [(Value.int .i64 v1), v2, x1, v8, v15, x3] 158 (fun b16 H17 => B8 P x2 x4 (Value.pointer (some ⟨b16, 0, none⟩)) H17)) False) False) False) False))))) ∧ (mkR H7 8 72 [(Value.int .u64 0)] v5 v5 (fun v19 H18 => AC Try.prog T0 176 [(Value.slice (some ⟨b6, 0, none⟩) 1 (1 + 1)), (Value.int .i64 (n4 : Int))] H18 (fun v20 H21 => (ldI .i64 H21 x4 0 (fun v23 => ld1 H21 x4 1 (fun v24 => ((Value.agg ⟨[(Value.int .i64 v23), v24]⟩) = (Value.agg ⟨[(Value.int .i64 v1), v2]⟩)) ∧ (H21 = H21)))) ∧ ((ldI .i64 H21 x4 0 (fun v25 => ((Value.int .i64 v25) = (Value.int .i64 v5)) ∧ (H21 = H21))) ∧ (pif (Value.oneCell' x1) (pif (Value.oneCell' v20) (pif (Value.oneCell' v19) (pif (Value.oneCell' x3) (newK H21 [(Value.int .i64 v1), v2, x1, v20, v19, x3] 158 (fun b26 H27 => B8 P x2 x4 (Value.pointer (some ⟨b26, 0, none⟩)) H27)) False) False) False) False))))))) ∧ (mkR H 8 72 [(Value.int .u64 0)] v5 v5 (fun v29 H28 => newK H28 [(Value.int .i64 (-1))] 2 (fun b30 H31 => AC Try.prog T0 176 [(Value.slice (some ⟨b30, 0, none⟩) 1 (1 + 1)), (Value.int .i64 (n4 : Int))] H31 (fun v32 H33 => (ldI .i64 H33 x4 0 (fun v35 => ld1 H33 x4 1 (fun v36 => ((Value.agg ⟨[(Value.int .i64 v35), v36]⟩) = (Value.agg ⟨[(Value.int .i64 v1), v2]⟩)) ∧ (H33 = H33)))) ∧ ((ldI .i64 H33 x4 0 (fun v37 => ((Value.int .i64 v37) = (Value.int .i64 v5)) ∧ (H33 = H33))) ∧ (pif (Value.oneCell' x1) (pif (Value.oneCell' v32) (pif (Value.oneCell' v29) (pif (Value.oneCell' x3) (newK H33 [(Value.int .i64 v1), v2, x1, v32, v29, x3] 158 (fun b38 H39 => B8 P x2 x4 (Value.pointer (some ⟨b38, 0, none⟩)) H39)) False) False) False) False)))))))))))
theorem q9 (P : PT) : QT Try.prog T0 40 o9 (.op 0 [] (.op 1 [] (.op 3 [] (.op 4 [] (.op 5 [] (.op 7 [] (.op 8 [] (.op 10 [] (.alt (.op 2 [] (.alt (.op 6 [0, 8] (.op 9 [] (.op 11 [] (.op 12 [] (.op 13 [] .done))))) (.op 9 [] (.op 6 [0, 8] (.op 11 [] (.op 12 [] (.op 13 [] .done))))))) (.op 9 [] (.op 2 [] (.op 6 [0, 8] (.op 11 [] (.op 12 [] (.op 13 [] .done))))))))))))))) (En 40 k4 (B8 P)) k5 (B9 P) := fun _ _ _ _ _ _  => by kernel_rfl
abbrev k6 : Sk := [(0,.g [.i,.v]),(1,.v),(2,.b),(3,.v)]
noncomputable def o10 := ob Try.f154 [.l]
def B10 (P : PT) (x0a : Int) (x0b x1 : Value) (x2 : Bool) (x3 : Value) (H : AHeap) : Prop :=
  newK H [(Value.int .i64 x0a), x0b] 32 (fun b1 H2 => B9 P x1 x2 x3 b1 H2)
theorem q10 (P : PT) : QB Try.prog T0 40 o10 (En 40 k5 (B9 P)) k6 (B10 P) := fun _ _ _ _ _ _ _  => by kernel_rfl
noncomputable def code : Code := (.seq (.region 0 ⟨o10⟩ false) (.seq (.region 1 ⟨o9⟩ true) (.seq (.seq (.region 2 ⟨o8⟩ false) (.cond (.tmp 25) (.seq (.region 3 ⟨o7⟩ false) (.block 0 (.loop (.seq (.region 4 ⟨o6⟩ false) (.seq (.cond (.tmp 30) .skip (.exit 0)) (.seq (.block 1 (.seq (.region 5 ⟨o5⟩ false) (.region 6 ⟨o4⟩ false))) (.region 7 ⟨o3⟩ false))))))) .skip)) (.seq (.region 8 ⟨o1⟩ false) .ret))))
theorem body : Try.f154.body = some code := by kernel_rfl
theorem main (P : PT) : ∀ env H, (En 40 k6 (B10 P)) env H → AW Try.prog T0 code env H (mkQ (ret P) (fun _ _ _ => False) (ret P)) :=
  (r_seq (rB T0_ok (q10 P)) (r_seq (rT T0_ok mixed (.op 0 [] (.op 1 [] (.op 3 [] (.op 4 [] (.op 5 [] (.op 7 [] (.op 8 [] (.op 10 [] (.alt (.op 2 [] (.alt (.op 6 [0, 8] (.op 9 [] (.op 11 [] (.op 12 [] (.op 13 [] .done))))) (.op 9 [] (.op 6 [0, 8] (.op 11 [] (.op 12 [] (.op 13 [] .done))))))) (.op 9 [] (.op 2 [] (.op 6 [0, 8] (.op 11 [] (.op 12 [] (.op 13 [] .done))))))))))))))) (by kernel_rfl) (q9 P)) (r_seq (r_seq (rB T0_ok (q8 P)) (r_cond rfl (r_seq (rB T0_ok (q7 P)) (r_block (rL (l2 P) (fun N2 => (r_seq (rB T0_ok (q6 P N2)) (r_seq (r_cond rfl r_skip (r_exit (fun _ _ h => h))) (r_seq (r_block (r_seq (rB T0_ok (q5 P N2)) (rB T0_ok (q4 P N2)))) (rB T0_ok (q3 P N2))))))))) r_skip)) (r_seq (rB T0_ok (q1 P)) r_ret))))
theorem ac (P : PT) (x0a : Int) (x0b x1 : Value) (x2 : Bool) (x3 : Value) (H : AHeap) (h : B10 P x0a x0b x1 x2 x3 H) : AC Try.prog T0 154 [(Value.agg ⟨[(Value.int .i64 x0a), x0b]⟩), x1, (Value.bool x2), x3] H P :=
  r_fn T0_ok (c := code) (n := 40) Try.func154 body (by kernel_rfl) (main P) (En_mk (x0a, x0b, x1, x2, x3, ()) (by kernel_rfl) ⟨by kernel_rfl, by kernel_rfl, by kernel_rfl, by kernel_rfl, trivial⟩ h)

end F154
-- (loop.example/g01329/impl.Graph).isPaintable$1
namespace F155
noncomputable def ret (P : PT) : EP := retE T0 3 Try.f155 P
abbrev k0 : Sk := []
noncomputable def o1 := ob Try.f155 [.r,.l]
def B1 (P : PT) (H : AHeap) : Prop :=
  P (Value.bool true) H
theorem q1 (P : PT) : QB Try.prog T0 3 o1 (ret P) k0 (B1 P) := fun _ _  => by kernel_rfl
noncomputable def o2 := ob Try.f155 [.l]
def B2 (P : PT) (H : AHeap) : Prop :=
  B1 P H
theorem q2 (P : PT) : QB Try.prog T0 3 o2 (En 3 k0 (B1 P)) k0 (B2 P) := fun _ _  => by kernel_rfl
noncomputable def code : Code := (.seq (.region 0 ⟨o2⟩ false) (.seq (.region 1 ⟨o1⟩ false) .ret))
theorem body : Try.f155.body = some code := by kernel_rfl
theorem main (P : PT) : ∀ env H, (En 3 k0 (B2 P)) env H → AW Try.prog T0 code env H (mkQ (ret P) (fun _ _ _ => False) (ret P)) :=
  (r_seq (rB T0_ok (q2 P)) (r_seq (rB T0_ok (q1 P)) r_ret))
theorem ac (P : PT) (x0 : Value) (H : AHeap) (h : B2 P H) : AC Try.prog T0 155 [x0] H P :=
  r_fn T0_ok (c := code) (n := 3) Try.func155 body (by kernel_rfl) (main P) (En_mk (()) (by kernel_rfl) trivial h)

end F155
-- (*loop.example/g01329/impl.painter).start
namespace F156
noncomputable def ret (P : PT) : EP := retE T0 57 Try.f156 P
abbrev k0 : Sk := [(0,.v)]
noncomputable def o1 := ob Try.f156 [.r,.r,.l]
def B1 (P : PT) (x0 : Value) (H : AHeap) : Prop :=
  AC Try.prog T0 178 [x0, (Value.int .i64 0)] H (fun v1 H2 => asB v1 (fun v3 => P (Value.bool v3) H2))
theorem q1 (P : PT) : QB Try.prog T0 57 o1 (ret P) k0 (B1 P) := fun _ _ _  => by kernel_rfl
abbrev k1 : Sk := [(0,.v),(11,.i .i64),(12,.i .i64)]
noncomputable def o3 := ob Try.f156 [.r,.l,.r,.l,.l,.r,.r,.r]
def B3 (P : PT) (N2 : NTy k1 Pr) (x0 : Value) (x11 x12 : Int) (H : AHeap) : Prop :=
  N2 x0 x11 (IntKind.i64.wrap (x12 + 1)) H
theorem q3 (P : PT) (N2 : NTy k1 Pr) : QB Try.prog T0 57 o3 (En 57 k1 N2) k1 (B3 P N2) := fun _ _ _ _ _  => by kernel_rfl
abbrev k2 : Sk := [(0,.v),(4,.i .u64),(11,.i .i64),(12,.i .i64),(20,.v),(21,.i .i64),(22,.i .i64)]
noncomputable def o5 := ob Try.f156 [.r,.l,.r,.l,.l,.r,.r,.l,.l,.r,.r,.r,.l,.l,.r,.r,.r]
def B5 (P : PT) (N2 : NTy k1 Pr) (N4 : NTy k2 Pr) (x0 : Value) (x4 x11 x12 : Int) (x20 : Value) (x21 x22 : Int) (H : AHeap) : Prop :=
  N4 x0 x4 x11 x12 x20 x21 (IntKind.i64.wrap (x22 + 1)) H
theorem q5 (P : PT) (N2 : NTy k1 Pr) (N4 : NTy k2 Pr) : QB Try.prog T0 57 o5 (En 57 k2 N4) k2 (B5 P N2 N4) := fun _ _ _ _ _ _ _ _ _  => by kernel_rfl
abbrev k3 : Sk := [(0,.v),(4,.i .u64),(6,.i .i64),(11,.i .i64),(12,.i .i64),(20,.v),(21,.i .i64),(22,.i .i64)]
noncomputable def o6 := ob Try.f156 [.r,.l,.r,.l,.l,.r,.r,.l,.l,.r,.r,.r,.l,.l,.r,.r,.l,.l,.r,.r,.r]
def B6 (P : PT) (N2 : NTy k1 Pr) (N4 : NTy k2 Pr) (x0 : Value) (x4 x6 x11 x12 : Int) (x20 : Value) (x21 x22 : Int) (H : AHeap) : Prop :=
  nilK x0 (fun v1 => asP v1 (fun b2 o3 => ld1 H b2 (o3 + 3) (fun v4 => idxK v4 x6 1 (fun b5 o6 => ldI .i64 H b5 o6 (fun v7 => ((0 : Int) ≤ v7) ∧ (B5 P N2 N4 x0 (IntKind.u64.wrap (BitVec.ofInt 64 x4 ||| BitVec.ofInt 64 (IntKind.u64.wrap (1 * 2 ^ (min (Int.toNat v7) 64)))).toNat) x11 x12 x20 x21 x22 H))))))
theorem q6 (P : PT) (N2 : NTy k1 Pr) (N4 : NTy k2 Pr) : QB Try.prog T0 57 o6 (En 57 k2 (B5 P N2 N4)) k3 (B6 P N2 N4) := fun _ _ _ _ _ _ _ _ _ _  => by kernel_rfl
abbrev k4 : Sk := []
noncomputable def o7 := ob Try.f156 [.r,.l,.r,.l,.l,.r,.r,.l,.l,.r,.r,.r,.l,.l,.r,.r,.l,.l,.r,.r,.l,.r,.l,.l]
def B7 (P : PT) (N2 : NTy k1 Pr) (N4 : NTy k2 Pr) (H : AHeap) : Prop :=
  P (Value.bool false) H
theorem q7 (P : PT) (N2 : NTy k1 Pr) (N4 : NTy k2 Pr) : QB Try.prog T0 57 o7 (ret P) k4 (B7 P N2 N4) := fun _ _  => by kernel_rfl
noncomputable def o8 := ob Try.f156 [.r,.l,.r,.l,.l,.r,.r,.l,.l,.r,.r,.r,.l,.l,.r,.r,.l,.l,.r,.r,.l,.l]
def B8 (P : PT) (N2 : NTy k1 Pr) (N4 : NTy k2 Pr) (x0 : Value) (x4 x6 x11 x12 : Int) (x20 : Value) (x21 x22 : Int) (H : AHeap) : Prop :=
  nilK x0 (fun v1 => asP v1 (fun b2 o3 => ld1 H b2 (o3 + 3) (fun v4 => idxK v4 x6 1 (fun b5 o6 => ldI .i64 H b5 o6 (fun v7 => AC Try.prog T0 102 [(Value.int .u64 x4), (Value.int .i64 v7)] H (fun v8 H9 => asB v8 (fun v10 => pif v10 (B7 P N2 N4 H9) (B6 P N2 N4 x0 x4 x6 x11 x12 x20 x21 x22 H9))))))))
theorem q8 (P : PT) (N2 : NTy k1 Pr) (N4 : NTy k2 Pr) : QB Try.prog T0 57 o8 (cnd 42 (En 57 k4 (B7 P N2 N4)) (En 57 k3 (B6 P N2 N4))) k3 (B8 P N2 N4) := fun _ _ _ _ _ _ _ _ _ _  => by kernel_rfl
noncomputable def o9 := ob Try.f156 [.r,.l,.r,.l,.l,.r,.r,.l,.l,.r,.r,.r,.l,.l,.r,.r,.l,.l,.r,.l,.l]
def B9 (P : PT) (N2 : NTy k1 Pr) (N4 : NTy k2 Pr) (x0 : Value) (x4 x6 x11 x12 : Int) (x20 : Value) (x21 x22 : Int) (H : AHeap) : Prop :=
  nilK x0 (fun v1 => asP v1 (fun b2 o3 => ld1 H b2 (o3 + 3) (fun v4 => idxK v4 x6 1 (fun b5 o6 => ldI .i64 H b5 o6 (fun v7 => pif ((v7 : Int) == (-1)) (B5 P N2 N4 x0 x4 x11 x12 x20 x21 x22 H) (B8 P N2 N4 x0 x4 x6 x11 x12 x20 x21 x22 H))))))
theorem q9 (P : PT) (N2 : NTy k1 Pr) (N4 : NTy k2 Pr) : QB Try.prog T0 57 o9 (cnd 33 (En 57 k2 (B5 P N2 N4)) (En 57 k3 (B8 P N2 N4))) k3 (B9 P N2 N4) := fun _ _ _ _ _ _ _ _ _ _  => by kernel_rfl
noncomputable def o10 := ob Try.f156 [.r,.l,.r,.l,.l,.r,.r,.l,.l,.r,.r,.r,.l,.l,.r,.r,.l,.l,.l]
def B10 (P : PT) (N2 : NTy k1 Pr) (N4 : NTy k2 Pr) (x0 : Value) (x4 x11 x12 : Int) (x20 : Value) (x21 x22 : Int) (H : AHeap) : Prop :=
  idxK x20 x22 1 (fun b1 o2 => ldI .i64 H b1 o2 (fun v3 => B9 P N2 N4 x0 x4 v3 x11 x12 x20 x21 x22 H))
theorem q10 (P : PT) (N2 : NTy k1 Pr) (N4 : NTy k2 Pr) : QB Try.prog T0 57 o10 (En 57 k3 (B9 P N2 N4)) k2 (B10 P N2 N4) := fun _ _ _ _ _ _ _ _ _  => by kernel_rfl
noncomputable def o11 := ob Try.f156 [.r,.l,.r,.l,.l,.r,.r,.l,.l,.r,.r,.r,.l,.l,.l]
def B11 (P : PT) (N2 : NTy k1 Pr) (N4 : NTy k2 Pr) (x0 : Value) (x4 x11 x12 : Int) (x20 : Value) (x21 x22 : Int) (H : AHeap) : Prop :=
  pif (decide ((x22 : Int) < x21)) (B10 P N2 N4 x0 x4 x11 x12 x20 x21 x22 H) (B3 P N2 x0 x11 x12 H)
theorem q11 (P : PT) (N2 : NTy k1 Pr) (N4 : NTy k2 Pr) : QB Try.prog T0 57 o11 (cnd 23 (En 57 k2 (B10 P N2 N4)) (En 57 k1 (B3 P N2))) k2 (B11 P N2 N4) := fun _ _ _ _ _ _ _ _ _  => by kernel_rfl
def L4 (P : PT) (N2 : NTy k1 Pr) (x0 : Value) (x4 x11 x12 : Int) (x20 : Value) (x21 x22 : Int) (H : AHeap) : Prop :=
  ∃ (I : NTy k2 Pr) (μ : NTy k2 (AHeap → Nat)), I x0 x4 x11 x12 x20 x21 x22 H ∧ ∀ y0 y4 y11 y12 y20 y21 y22 G, I y0 y4 y11 y12 y20 y21 y22 G → B11 P N2 (fun z0 z4 z11 z12 z20 z21 z22 G' => I z0 z4 z11 z12 z20 z21 z22 G' ∧ μ z0 z4 z11 z12 z20 z21 z22 G' < μ y0 y4 y11 y12 y20 y21 y22 G) y0 y4 y11 y12 y20 y21 y22 G
theorem l4 (P : PT) (N2 : NTy k1 Pr) : LQ k2 (L4 P N2) (B11 P N2) := fun ⟨_,_,_,_,_,_,_,_⟩ _ ⟨I, μ, h0, hI⟩ => ⟨apT _ I, apT _ μ, h0, fun ⟨_,_,_,_,_,_,_,_⟩ _ h => hI _ _ _ _ _ _ _ _  h⟩
abbrev k5 : Sk := [(0,.v),(3,.i .i64),(4,.i .u64),(11,.i .i64),(12,.i .i64)]
noncomputable def o12 := ob Try.f156 [.r,.l,.r,.l,.l,.r,.r,.l,.l,.r,.r,.l]
def B12 (P : PT) (N2 : NTy k1 Pr) (x0 : Value) (x3 x4 x11 x12 : Int) (H : AHeap) : Prop :=
  nilK x0 (fun v1 => asP v1 (fun b2 o3 => ldI .i64 H b2 o3 (fun v4 => ld1 H b2 (o3 + 1) (fun v5 => AC Try.prog T0 105 [(Value.agg ⟨[(Value.int .i64 v4), v5]⟩), (Value.int .i64 x3)] H (fun v6 H7 => lenK v6 (fun n9 => L4 P N2 x0 x4 x11 x12 v6 (n9 : Int) 0 H7))))))
theorem q12 (P : PT) (N2 : NTy k1 Pr) : QB Try.prog T0 57 o12 (En 57 k2 (L4 P N2)) k5 (B12 P N2) := fun _ _ _ _ _ _ _  => by kernel_rfl
abbrev k6 : Sk := [(0,.v),(3,.i .i64),(11,.i .i64),(12,.i .i64)]
noncomputable def o13 := ob Try.f156 [.r,.l,.r,.l,.l,.r,.r,.l,.l,.r,.l]
def B13 (P : PT) (N2 : NTy k1 Pr) (x0 : Value) (x3 x11 x12 : Int) (H : AHeap) : Prop :=
  B12 P N2 x0 x3 0 x11 x12 H
theorem q13 (P : PT) (N2 : NTy k1 Pr) : QB Try.prog T0 57 o13 (En 57 k5 (B12 P N2)) k6 (B13 P N2) := fun _ _ _ _ _ _  => by kernel_rfl
noncomputable def o14 := ob Try.f156 [.r,.l,.r,.l,.l,.r,.r,.l,.l,.l]
def B14 (P : PT) (N2 : NTy k1 Pr) (x0 : Value) (x11 x12 : Int) (H : AHeap) : Prop :=
  B13 P N2 x0 x12 x11 x12 H
theorem q14 (P : PT) (N2 : NTy k1 Pr) : QB Try.prog T0 57 o14 (En 57 k6 (B13 P N2)) k1 (B14 P N2) := fun _ _ _ _ _  => by kernel_rfl
noncomputable def o15 := ob Try.f156 [.r,.l,.r,.l,.l,.l]
def B15 (P : PT) (N2 : NTy k1 Pr) (x0 : Value) (x11 x12 : Int) (H : AHeap) : Prop :=
  pif (decide ((x12 : Int) < x11)) (B14 P N2 x0 x11 x12 H) (B1 P x0 H)
theorem q15 (P : PT) (N2 : NTy k1 Pr) : QB Try.prog T0 57 o15 (cnd 13 (En 57 k1 (B14 P N2)) (En 57 k0 (B1 P))) k1 (B15 P N2) := fun _ _ _ _ _  => by kernel_rfl
def L2 (P : PT) (x0 : Value) (x11 x12 : Int) (H : AHeap) : Prop :=
  ∃ (I : NTy k1 Pr) (μ : NTy k1 (AHeap → Nat)), I x0 x11 x12 H ∧ ∀ y0 y11 y12 G, I y0 y11 y12 G → B15 P (fun z0 z11 z12 G' => I z0 z11 z12 G' ∧ μ z0 z11 z12 G' < μ y0 y11 y12 G) y0 y11 y12 G
theorem l2 (P : PT) : LQ k1 (L2 P) (B15 P) := fun ⟨_,_,_,_⟩ _ ⟨I, μ, h0, hI⟩ => ⟨apT _ I, apT _ μ, h0, fun ⟨_,_,_,_⟩ _ h => hI _ _ _ _  h⟩
noncomputable def o16 := ob Try.f156 [.r,.l,.l]
def B16 (P : PT) (x0 : Value) (H : AHeap) : Prop :=
  nilK x0 (fun v1 => asP v1 (fun b2 o3 => ldI .i64 H b2 o3 (fun v4 => L2 P x0 v4 0 H)))
theorem q16 (P : PT) : QB Try.prog T0 57 o16 (En 57 k1 (L2 P)) k0 (B16 P) := fun _ _ _  => by kernel_rfl
noncomputable def o17 := ob Try.f156 [.l]
def B17 (P : PT) (x0 : Value) (H : AHeap) : Prop :=
  B16 P x0 H
theorem q17 (P : PT) : QB Try.prog T0 57 o17 (En 57 k0 (B16 P)) k0 (B17 P) := fun _ _ _  => by kernel_rfl
noncomputable def code : Code := (.seq (.region 0 ⟨o17⟩ false) (.seq (.seq (.region 1 ⟨o16⟩ false) (.block 0 (.loop (.seq (.region 2 ⟨o15⟩ false) (.seq (.cond (.tmp 13) .skip (.exit 0)) (.seq (.block 1 (.seq (.region 3 ⟨o14⟩ false) (.seq (.region 4 ⟨o13⟩ false) (.seq (.region 5 ⟨o12⟩ false) (.block 2 (.loop (.seq (.region 6 ⟨o11⟩ false) (.seq (.cond (.tmp 23) .skip (.exit 2)) (.seq (.block 3 (.seq (.region 7 ⟨o10⟩ false) (.seq (.seq (.region 8 ⟨o9⟩ false) (.cond (.tmp 33) (.exit 3) .skip)) (.seq (.seq (.region 9 ⟨o8⟩ false) (.cond (.tmp 42) (.seq (.region 10 ⟨o7⟩ false) .ret) .skip)) (.region 11 ⟨o6⟩ false))))) (.region 12 ⟨o5⟩ false)))))))))) (.region 13 ⟨o3⟩ false))))))) (.seq (.region 14 ⟨o1⟩ false) .ret)))
theorem body : Try.f156.body = some code := by kernel_rfl
theorem main (P : PT) : ∀ env H, (En 57 k0 (B17 P)) env H → AW Try.prog T0 code env H (mkQ (ret P) (fun _ _ _ => False) (ret P)) :=
  (r_seq (rB T0_ok (q17 P)) (r_seq (r_seq (rB T0_ok (q16 P)) (r_block (rL (l2 P) (fun N2 => (r_seq (rB T0_ok (q15 P N2)) (r_seq (r_cond rfl r_skip (r_exit (fun _ _ h => h))) (r_seq (r_block (r_seq (rB T0_ok (q14 P N2)) (r_seq (rB T0_ok (q13 P N2)) (r_seq (rB T0_ok (q12 P N2)) (r_block (rL (l4 P N2) (fun N4 => (r_seq (rB T0_ok (q11 P N2 N4)) (r_seq (r_cond rfl r_skip (r_exit (fun _ _ h => h))) (r_seq (r_block (r_seq (rB T0_ok (q10 P N2 N4)) (r_seq (r_seq (rB T0_ok (q9 P N2 N4)) (r_cond rfl (r_exit (fun _ _ h => h)) r_skip)) (r_seq (r_seq (rB T0_ok (q8 P N2 N4)) (r_cond rfl (r_seq (rB T0_ok (q7 P N2 N4)) r_ret) r_skip)) (rB T0_ok (q6 P N2 N4)))))) (rB T0_ok (q5 P N2 N4)))))))))))) (rB T0_ok (q3 P N2))))))))) (r_seq (rB T0_ok (q1 P)) r_ret)))
theorem ac (P : PT) (x0 : Value) (H : AHeap) (h : B17 P x0 H) : AC Try.prog T0 156 [x0] H P :=
  r_fn T0_ok (c := code) (n := 57) Try.func156 body (by kernel_rfl) (main P) (En_mk (x0, ()) (by kernel_rfl) ⟨by kernel_rfl, trivial⟩ h)

end F156
-- slices.ContainsFunc[[]int,int]
namespace F159
noncomputable def ret (P : PT) : EP := retE T0 9 Try.f159 P
abbrev k0 : Sk := [(0,.v),(1,.v)]
noncomputable def o1 := ob Try.f159 [.r,.l]
def B1 (P : PT) (x0 x1 : Value) (H : AHeap) : Prop :=
  AC Try.prog T0 180 [x0, x1] H (fun v1 H2 => asI .i64 v1 (fun v3 => P (Value.bool (decide ((v3 : Int) ≥ 0))) H2))
theorem q1 (P : PT) : QB Try.prog T0 9 o1 (ret P) k0 (B1 P) := fun _ _ _ _  => by kernel_rfl
noncomputable def o2 := ob Try.f159 [.l]
def B2 (P : PT) (x0 x1 : Value) (H : AHeap) : Prop :=
  B1 P x0 x1 H
theorem q2 (P : PT) : QB Try.prog T0 9 o2 (En 9 k0 (B1 P)) k0 (B2 P) := fun _ _ _ _  => by kernel_rfl
noncomputable def code : Code := (.seq (.region 0 ⟨o2⟩ false) (.seq (.region 1 ⟨o1⟩ false) .ret))
theorem body : Try.f159.body = some code := by kernel_rfl
theorem main (P : PT) : ∀ env H, (En 9 k0 (B2 P)) env H → AW Try.prog T0 code env H (mkQ (ret P) (fun _ _ _ => False) (ret P)) :=
  (r_seq (rB T0_ok (q2 P)) (r_seq (rB T0_ok (q1 P)) r_ret))
theorem ac (P : PT) (x0 x1 : Value) (H : AHeap) (h : B2 P x0 x1 H) : AC Try.prog T0 159 [x0, x1] H P :=
  r_fn T0_ok (c := code) (n := 9) Try.func159 body (by kernel_rfl) (main P) (En_mk (x0, x1, ()) (by kernel_rfl) ⟨by kernel_rfl, by kernel_rfl, trivial⟩ h)

end F159
-- loop.example/g01329/impl.areAll[int]$1
namespace F160
noncomputable def ret (P : PT) : EP := retE T0 8 Try.f160 P
abbrev k0 : Sk := [(0,.i .i64),(1,.v)]
noncomputable def o1 := ob Try.f160 [.r,.l]
def B1 (P : PT) (x0 : Int) (x1 : Value) (H : AHeap) : Prop :=
  asP x1 (fun b1 o2 => ld1 H b1 o2 (fun v3 => callV Try.prog T0 v3 [(Value.int .i64 x0)] H (fun v4 H5 => asB v4 (fun v6 => P (Value.bool (!v6)) H5))))
theorem q1 (P : PT) : QB Try.prog T0 8 o1 (ret P) k0 (B1 P) := fun _ _ _ _  => by kernel_rfl
noncomputable def o2 := ob Try.f160 [.l]
def B2 (P : PT) (x0 : Int) (x1 : Value) (H : AHeap) : Prop :=
  B1 P x0 x1 H
theorem q2 (P : PT) : QB Try.prog T0 8 o2 (En 8 k0 (B1 P)) k0 (B2 P) := fun _ _ _ _  => by kernel_rfl
noncomputable def code : Code := (.seq (.region 0 ⟨o2⟩ false) (.seq (.region 1 ⟨o1⟩ false) .ret))
theorem body : Try.f160.body = some code := by kernel_rfl
theorem main (P : PT) : ∀ env H, (En 8 k0 (B2 P)) env H → AW Try.prog T0 code env H (mkQ (ret P) (fun _ _ _ => False) (ret P)) :=
  (r_seq (rB T0_ok (q2 P)) (r_seq (rB T0_ok (q1 P)) r_ret))
theorem ac (P : PT) (x0 : Int) (x1 : Value) (H : AHeap) (h : B2 P x0 x1 H) : AC Try.prog T0 160 [(Value.int .i64 x0), x1] H P :=
  r_fn T0_ok (c := code) (n := 8) Try.func160 body (by kernel_rfl) (main P) (En_mk (x0, x1, ()) (by kernel_rfl) ⟨by kernel_rfl, by kernel_rfl, trivial⟩ h)

end F160
-- loop.example/g01329/impl.isSize
namespace F169
noncomputable def ret (P : PT) : EP := retE T0 10 Try.f169 P
abbrev k0 : Sk := [(0,.i .i64)]
noncomputable def o1 := ob Try.f169 [.r,.l]
def B1 (P : PT) (x0 : Int) (H : AHeap) : Prop :=
  AC Try.prog T0 83 [(Value.int .i64 x0), (Value.int .i64 2), (Value.int .i64 20)] H (fun v1 H2 => asB v1 (fun v3 => pif v3 (P (Value.bool ((Int.tmod x0 2 : Int) == 0)) H2) (P (Value.bool false) H2)))
theorem q1 (P : PT) : QB Try.prog T0 10 o1 (ret P) k0 (B1 P) := fun _ _ _  => by kernel_rfl
noncomputable def o2 := ob Try.f169 [.l]
def B2 (P : PT) (x0 : Int) (H : AHeap) : Prop :=
  B1 P x0 H
theorem q2 (P : PT) : QB Try.prog T0 10 o2 (En 10 k0 (B1 P)) k0 (B2 P) := fun _ _ _  => by kernel_rfl
noncomputable def code : Code := (.seq (.region 0 ⟨o2⟩ false) (.seq (.region 1 ⟨o1⟩ false) .ret))
theorem body : Try.f169.body = some code := by kernel_rfl
theorem main (P : PT) : ∀ env H, (En 10 k0 (B2 P)) env H → AW Try.prog T0 code env H (mkQ (ret P) (fun _ _ _ => False) (ret P)) :=
  (r_seq (rB T0_ok (q2 P)) (r_seq (rB T0_ok (q1 P)) r_ret))
theorem ac (P : PT) (x0 : Int) (H : AHeap) (h : B2 P x0 H) : AC Try.prog T0 169 [(Value.int .i64 x0)] H P :=
  r_fn T0_ok (c := code) (n := 10) Try.func169 body (by kernel_rfl) (main P) (En_mk (x0, ()) (by kernel_rfl) ⟨by kernel_rfl, trivial⟩ h)

end F169
-- loop.example/g01329/impl.areEdges$1
namespace F170
noncomputable def ret (P : PT) : EP := retE T0 23 Try.f170 P
abbrev k0 : Sk := [(1,.v),(2,.x)]
noncomputable def o1 := ob Try.f170 [.r,.l]
def B1 (P : PT) (x1 : Value) (x2 : Nat) (H : AHeap) : Prop :=
  ldI .i64 H x2 0 (fun v1 => asP x1 (fun b2 o3 => ldI .i64 H b2 o3 (fun v4 => AC Try.prog T0 83 [(Value.int .i64 v1), (Value.int .i64 0), (Value.int .i64 (IntKind.i64.wrap (v4 - 1)))] H (fun v5 H6 => asB v5 (fun v7 => pif v7 (ldI .i64 H6 x2 1 (fun v8 => asP x1 (fun b9 o10 => ldI .i64 H6 b9 o10 (fun v11 => AC Try.prog T0 83 [(Value.int .i64 v8), (Value.int .i64 0), (Value.int .i64 (IntKind.i64.wrap (v11 - 1)))] H6 (fun v12 H13 => asB v12 (fun v14 => pif v14 (ldI .i64 H13 x2 0 (fun v15 => ldI .i64 H13 x2 1 (fun v16 => P (Value.bool ((v15 : Int) != v16)) H13))) (P (Value.bool false) H13))))))) (P (Value.bool false) H6))))))
theorem q1 (P : PT) : QB Try.prog T0 23 o1 (ret P) k0 (B1 P) := fun _ _ _ _  => by kernel_rfl
abbrev k1 : Sk := [(0,.g [.i,.i]),(1,.v)]
noncomputable def o2 := ob Try.f170 [.l]
def B2 (P : PT) (x0a x0b : Int) (x1 : Value) (H : AHeap) : Prop :=
  newK H [(Value.int .i64 x0a), (Value.int .i64 x0b)] 100 (fun b1 H2 => B1 P x1 b1 H2)
theorem q2 (P : PT) : QB Try.prog T0 23 o2 (En 23 k0 (B1 P)) k1 (B2 P) := fun _ _ _ _ _  => by kernel_rfl
noncomputable def code : Code := (.seq (.region 0 ⟨o2⟩ false) (.seq (.region 1 ⟨o1⟩ false) .ret))
theorem body : Try.f170.body = some code := by kernel_rfl
theorem main (P : PT) : ∀ env H, (En 23 k1 (B2 P)) env H → AW Try.prog T0 code env H (mkQ (ret P) (fun _ _ _ => False) (ret P)) :=
  (r_seq (rB T0_ok (q2 P)) (r_seq (rB T0_ok (q1 P)) r_ret))
theorem ac (P : PT) (x0a x0b : Int) (x1 : Value) (H : AHeap) (h : B2 P x0a x0b x1 H) : AC Try.prog T0 170 [(Value.agg ⟨[(Value.int .i64 x0a), (Value.int .i64 x0b)]⟩), x1] H P :=
  r_fn T0_ok (c := code) (n := 23) Try.func170 body (by kernel_rfl) (main P) (En_mk (x0a, x0b, x1, ()) (by kernel_rfl) ⟨by kernel_rfl, by kernel_rfl, trivial⟩ h)

end F170
-- slices.ContainsFunc[[]loop.example/g01329/impl.Edge,loop.example/g01329/impl.Edge]
namespace F171
noncomputable def ret (P : PT) : EP := retE T0 9 Try.f171 P
abbrev k0 : Sk := [(0,.v),(1,.v)]
noncomputable def o1 := ob Try.f171 [.r,.l]
def B1 (P : PT) (x0 x1 : Value) (H : AHeap) : Prop :=
  AC Try.prog T0 183 [x0, x1] H (fun v1 H2 => asI .i64 v1 (fun v3 => P (Value.bool (decide ((v3 : Int) ≥ 0))) H2))
theorem q1 (P : PT) : QB Try.prog T0 9 o1 (ret P) k0 (B1 P) := fun _ _ _ _  => by kernel_rfl
noncomputable def o2 := ob Try.f171 [.l]
def B2 (P : PT) (x0 x1 : Value) (H : AHeap) : Prop :=
  B1 P x0 x1 H
theorem q2 (P : PT) : QB Try.prog T0 9 o2 (En 9 k0 (B1 P)) k0 (B2 P) := fun _ _ _ _  => by kernel_rfl
noncomputable def code : Code := (.seq (.region 0 ⟨o2⟩ false) (.seq (.region 1 ⟨o1⟩ false) .ret))
theorem body : Try.f171.body = some code := by kernel_rfl
theorem main (P : PT) : ∀ env H, (En 9 k0 (B2 P)) env H → AW Try.prog T0 code env H (mkQ (ret P) (fun _ _ _ => False) (ret P)) :=
  (r_seq (rB T0_ok (q2 P)) (r_seq (rB T0_ok (q1 P)) r_ret))
theorem ac (P : PT) (x0 x1 : Value) (H : AHeap) (h : B2 P x0 x1 H) : AC Try.prog T0 171 [x0, x1] H P :=
  r_fn T0_ok (c := code) (n := 9) Try.func171 body (by kernel_rfl) (main P) (En_mk (x0, x1, ()) (by kernel_rfl) ⟨by kernel_rfl, by kernel_rfl, trivial⟩ h)

end F171
-- loop.example/g01329/impl.areAll[loop.example/g01329/impl.Edge]$1
namespace F172
noncomputable def ret (P : PT) : EP := retE T0 8 Try.f172 P
abbrev k0 : Sk := [(1,.v),(2,.x)]
noncomputable def o1 := ob Try.f172 [.r,.l]
def B1 (P : PT) (x1 : Value) (x2 : Nat) (H : AHeap) : Prop :=
  asP x1 (fun b1 o2 => ld1 H b1 o2 (fun v3 => ldI .i64 H x2 0 (fun v4 => ldI .i64 H x2 1 (fun v5 => callV Try.prog T0 v3 [(Value.agg ⟨[(Value.int .i64 v4), (Value.int .i64 v5)]⟩)] H (fun v6 H7 => asB v6 (fun v8 => P (Value.bool (!v8)) H7))))))
theorem q1 (P : PT) : QB Try.prog T0 8 o1 (ret P) k0 (B1 P) := fun _ _ _ _  => by kernel_rfl
abbrev k1 : Sk := [(0,.g [.i,.i]),(1,.v)]
noncomputable def o2 := ob Try.f172 [.l]
def B2 (P : PT) (x0a x0b : Int) (x1 : Value) (H : AHeap) : Prop :=
  newK H [(Value.int .i64 x0a), (Value.int .i64 x0b)] 100 (fun b1 H2 => B1 P x1 b1 H2)
theorem q2 (P : PT) : QB Try.prog T0 8 o2 (En 8 k0 (B1 P)) k1 (B2 P) := fun _ _ _ _ _  => by kernel_rfl
noncomputable def code : Code := (.seq (.region 0 ⟨o2⟩ false) (.seq (.region 1 ⟨o1⟩ false) .ret))
theorem body : Try.f172.body = some code := by kernel_rfl
theorem main (P : PT) : ∀ env H, (En 8 k1 (B2 P)) env H → AW Try.prog T0 code env H (mkQ (ret P) (fun _ _ _ => False) (ret P)) :=
  (r_seq (rB T0_ok (q2 P)) (r_seq (rB T0_ok (q1 P)) r_ret))
theorem ac (P : PT) (x0a x0b : Int) (x1 : Value) (H : AHeap) (h : B2 P x0a x0b x1 H) : AC Try.prog T0 172 [(Value.agg ⟨[(Value.int .i64 x0a), (Value.int .i64 x0b)]⟩), x1] H P :=
  r_fn T0_ok (c := code) (n := 8) Try.func172 body (by kernel_rfl) (main P) (En_mk (x0a, x0b, x1, ()) (by kernel_rfl) ⟨by kernel_rfl, by kernel_rfl, trivial⟩ h)

end F172
-- slices.Compare[[]int64,int64]
namespace F173
noncomputable def ret (P : PT) : EP := retE T0 36 Try.f173 P
abbrev k0 : Sk := []
noncomputable def o1 := ob Try.f173 [.r,.r,.r,.l]
def B1 (P : PT) (H : AHeap) : Prop :=
  P (Value.int .i64 0) H
theorem q1 (P : PT) : QB Try.prog T0 36 o1 (ret P) k0 (B1 P) := fun _ _  => by kernel_rfl
noncomputable def o2 := ob Try.f173 [.r,.r,.l,.r,.l,.l]
def B2 (P : PT) (H : AHeap) : Prop :=
  P (Value.int .i64 (-1)) H
theorem q2 (P : PT) : QB Try.prog T0 36 o2 (ret P) k0 (B2 P) := fun _ _  => by kernel_rfl
abbrev k1 : Sk := [(0,.v),(1,.v)]
noncomputable def o3 := ob Try.f173 [.r,.r,.l,.l]
def B3 (P : PT) (x0 x1 : Value) (H : AHeap) : Prop :=
  lenK x0 (fun n1 => lenK x1 (fun n2 => pif (decide (((n1 : Int) : Int) < (n2 : Int))) (B2 P H) (B1 P H)))
theorem q3 (P : PT) : QB Try.prog T0 36 o3 (cnd 35 (En 36 k0 (B2 P)) (En 36 k0 (B1 P))) k1 (B3 P) := fun _ _ _ _  => by kernel_rfl
abbrev k2 : Sk := [(0,.v),(1,.v),(9,.v),(10,.i .i64),(11,.i .i64)]
noncomputable def o5 := ob Try.f173 [.r,.l,.r,.l,.l,.r,.r,.r]
def B5 (P : PT) (N4 : NTy k2 Pr) (x0 x1 x9 : Value) (x10 x11 : Int) (H : AHeap) : Prop :=
  N4 x0 x1 x9 x10 (IntKind.i64.wrap (x11 + 1)) H
theorem q5 (P : PT) (N4 : NTy k2 Pr) : QB Try.prog T0 36 o5 (En 36 k2 N4) k2 (B5 P N4) := fun _ _ _ _ _ _ _  => by kernel_rfl
abbrev k3 : Sk := [(8,.i .i64)]
noncomputable def o6 := ob Try.f173 [.r,.l,.r,.l,.l,.r,.r,.l,.l,.r,.r,.r,.r,.r,.l,.l]
def B6 (P : PT) (N4 : NTy k2 Pr) (x8 : Int) (H : AHeap) : Prop :=
  P (Value.int .i64 x8) H
theorem q6 (P : PT) (N4 : NTy k2 Pr) : QB Try.prog T0 36 o6 (ret P) k3 (B6 P N4) := fun _ _ _  => by kernel_rfl
abbrev k4 : Sk := [(0,.v),(1,.v),(8,.i .i64),(9,.v),(10,.i .i64),(11,.i .i64)]
noncomputable def o7 := ob Try.f173 [.r,.l,.r,.l,.l,.r,.r,.l,.l,.r,.r,.r,.r,.l]
def B7 (P : PT) (N4 : NTy k2 Pr) (x0 x1 : Value) (x8 : Int) (x9 : Value) (x10 x11 : Int) (H : AHeap) : Prop :=
  pif ((x8 : Int) != 0) (B6 P N4 x8 H) (B5 P N4 x0 x1 x9 x10 x11 H)
theorem q7 (P : PT) (N4 : NTy k2 Pr) : QB Try.prog T0 36 o7 (cnd 28 (En 36 k3 (B6 P N4)) (En 36 k2 (B5 P N4))) k4 (B7 P N4) := fun _ _ _ _ _ _ _ _  => by kernel_rfl
abbrev k5 : Sk := [(0,.v),(1,.v),(6,.i .i64),(7,.i .i64),(9,.v),(10,.i .i64),(11,.i .i64)]
noncomputable def o8 := ob Try.f173 [.r,.l,.r,.l,.l,.r,.r,.l,.l,.r,.r,.r,.l]
def B8 (P : PT) (N4 : NTy k2 Pr) (x0 x1 : Value) (x6 x7 : Int) (x9 : Value) (x10 x11 : Int) (H : AHeap) : Prop :=
  AC Try.prog T0 186 [(Value.int .i64 x6), (Value.int .i64 x7)] H (fun v1 H2 => asI .i64 v1 (fun v3 => B7 P N4 x0 x1 v3 x9 x10 x11 H2))
theorem q8 (P : PT) (N4 : NTy k2 Pr) : QB Try.prog T0 36 o8 (En 36 k4 (B7 P N4)) k5 (B8 P N4) := fun _ _ _ _ _ _ _ _ _  => by kernel_rfl
abbrev k6 : Sk := [(0,.v),(1,.v),(5,.i .i64),(6,.i .i64),(9,.v),(10,.i .i64),(11,.i .i64)]
noncomputable def o9 := ob Try.f173 [.r,.l,.r,.l,.l,.r,.r,.l,.l,.r,.r,.l]
def B9 (P : PT) (N4 : NTy k2 Pr) (x0 x1 : Value) (x5 x6 : Int) (x9 : Value) (x10 x11 : Int) (H : AHeap) : Prop :=
  idxK x1 x5 1 (fun b1 o2 => ldI .i64 H b1 o2 (fun v3 => B8 P N4 x0 x1 x6 v3 x9 x10 x11 H))
theorem q9 (P : PT) (N4 : NTy k2 Pr) : QB Try.prog T0 36 o9 (En 36 k5 (B8 P N4)) k6 (B9 P N4) := fun _ _ _ _ _ _ _ _ _  => by kernel_rfl
noncomputable def o10 := ob Try.f173 [.r,.l,.r,.l,.l,.r,.r,.l,.l,.r,.l,.r,.l,.l]
def B10 (P : PT) (N4 : NTy k2 Pr) (H : AHeap) : Prop :=
  P (Value.int .i64 1) H
theorem q10 (P : PT) (N4 : NTy k2 Pr) : QB Try.prog T0 36 o10 (ret P) k0 (B10 P N4) := fun _ _  => by kernel_rfl
noncomputable def o11 := ob Try.f173 [.r,.l,.r,.l,.l,.r,.r,.l,.l,.r,.l,.l]
def B11 (P : PT) (N4 : NTy k2 Pr) (x0 x1 : Value) (x5 x6 : Int) (x9 : Value) (x10 x11 : Int) (H : AHeap) : Prop :=
  lenK x1 (fun n1 => pif (decide ((x5 : Int) ≥ (n1 : Int))) (B10 P N4 H) (B9 P N4 x0 x1 x5 x6 x9 x10 x11 H))
theorem q11 (P : PT) (N4 : NTy k2 Pr) : QB Try.prog T0 36 o11 (cnd 19 (En 36 k0 (B10 P N4)) (En 36 k6 (B9 P N4))) k6 (B11 P N4) := fun _ _ _ _ _ _ _ _ _  => by kernel_rfl
noncomputable def o12 := ob Try.f173 [.r,.l,.r,.l,.l,.r,.r,.l,.l,.l]
def B12 (P : PT) (N4 : NTy k2 Pr) (x0 x1 x9 : Value) (x10 x11 : Int) (H : AHeap) : Prop :=
  idxK x9 x11 1 (fun b1 o2 => ldI .i64 H b1 o2 (fun v3 => B11 P N4 x0 x1 x11 v3 x9 x10 x11 H))
theorem q12 (P : PT) (N4 : NTy k2 Pr) : QB Try.prog T0 36 o12 (En 36 k6 (B11 P N4)) k2 (B12 P N4) := fun _ _ _ _ _ _ _  => by kernel_rfl
noncomputable def o13 := ob Try.f173 [.r,.l,.r,.l,.l,.l]
def B13 (P : PT) (N4 : NTy k2 Pr) (x0 x1 x9 : Value) (x10 x11 : Int) (H : AHeap) : Prop :=
  pif (decide ((x11 : Int) < x10)) (B12 P N4 x0 x1 x9 x10 x11 H) (B3 P x0 x1 H)
theorem q13 (P : PT) (N4 : NTy k2 Pr) : QB Try.prog T0 36 o13 (cnd 12 (En 36 k2 (B12 P N4)) (En 36 k1 (B3 P))) k2 (B13 P N4) := fun _ _ _ _ _ _ _  => by kernel_rfl
def L4 (P : PT) (x0 x1 x9 : Value) (x10 x11 : Int) (H : AHeap) : Prop :=
  ∃ (I : NTy k2 Pr) (μ : NTy k2 (AHeap → Nat)), I x0 x1 x9 x10 x11 H ∧ ∀ y0 y1 y9 y10 y11 G, I y0 y1 y9 y10 y11 G → B13 P (fun z0 z1 z9 z10 z11 G' => I z0 z1 z9 z10 z11 G' ∧ μ z0 z1 z9 z10 z11 G' < μ y0 y1 y9 y10 y11 G) y0 y1 y9 y10 y11 G
theorem l4 (P : PT) : LQ k2 (L4 P) (B13 P) := fun ⟨_,_,_,_,_,_⟩ _ ⟨I, μ, h0, hI⟩ => ⟨apT _ I, apT _ μ, h0, fun ⟨_,_,_,_,_,_⟩ _ h => hI _ _ _ _ _ _  h⟩
noncomputable def o14 := ob Try.f173 [.r,.l,.l]
def B14 (P : PT) (x0 x1 : Value) (H : AHeap) : Prop :=
  lenK x0 (fun n1 => L4 P x0 x1 x0 (n1 : Int) 0 H)
theorem q14 (P : PT) : QB Try.prog T0 36 o14 (En 36 k2 (L4 P)) k1 (B14 P) := fun _ _ _ _  => by kernel_rfl
noncomputable def o15 := ob Try.f173 [.l]
def B15 (P : PT) (x0 x1 : Value) (H : AHeap) : Prop :=
  B14 P x0 x1 H
theorem q15 (P : PT) : QB Try.prog T0 36 o15 (En 36 k1 (B14 P)) k1 (B15 P) := fun _ _ _ _  => by kernel_rfl
noncomputable def code : Code := (.seq (.region 0 ⟨o15⟩ false) (.seq (.seq (.region 1 ⟨o14⟩ false) (.block 0 (.loop (.seq (.region 2 ⟨o13⟩ false) (.seq (.cond (.tmp 12) .skip (.exit 0)) (.seq (.block 1 (.seq (.region 3 ⟨o12⟩ false) (.seq (.seq (.region 4 ⟨o11⟩ false) (.cond (.tmp 19) (.seq (.region 5 ⟨o10⟩ false) .ret) .skip)) (.seq (.region 6 ⟨o9⟩ false) (.seq (.region 7 ⟨o8⟩ false) (.seq (.region 8 ⟨o7⟩ false) (.cond (.tmp 28) (.seq (.region 9 ⟨o6⟩ false) .ret) .skip))))))) (.region 10 ⟨o5⟩ false))))))) (.seq (.seq (.region 11 ⟨o3⟩ false) (.cond (.tmp 35) (.seq (.region 12 ⟨o2⟩ false) .ret) .skip)) (.seq (.region 13 ⟨o1⟩ false) .ret))))
theorem body : Try.f173.body = some code := by kernel_rfl
theorem main (P : PT) : ∀ env H, (En 36 k1 (B15 P)) env H → AW Try.prog T0 code env H (mkQ (ret P) (fun _ _ _ => False) (ret P)) :=
  (r_seq (rB T0_ok (q15 P)) (r_seq (r_seq (rB T0_ok (q14 P)) (r_block (rL (l4 P) (fun N4 => (r_seq (rB T0_ok (q13 P N4)) (r_seq (r_cond rfl r_skip (r_exit (fun _ _ h => h))) (r_seq (r_block (r_seq (rB T0_ok (q12 P N4)) (r_seq (r_seq (rB T0_ok (q11 P N4)) (r_cond rfl (r_seq (rB T0_ok (q10 P N4)) r_ret) r_skip)) (r_seq (rB T0_ok (q9 P N4)) (r_seq (rB T0_ok (q8 P N4)) (r_seq (rB T0_ok (q7 P N4)) (r_cond rfl (r_seq (rB T0_ok (q6 P N4)) r_ret) r_skip))))))) (rB T0_ok (q5 P N4))))))))) (r_seq (r_seq (rB T0_ok (q3 P)) (r_cond rfl (r_seq (rB T0_ok (q2 P)) r_ret) r_skip)) (r_seq (rB T0_ok (q1 P)) r_ret))))
theorem ac (P : PT) (x0 x1 : Value) (H : AHeap) (h : B15 P x0 x1 H) : AC Try.prog T0 173 [x0, x1] H P :=
  r_fn T0_ok (c := code) (n := 36) Try.func173 body (by kernel_rfl) (main P) (En_mk (x0, x1, ()) (by kernel_rfl) ⟨by kernel_rfl, by kernel_rfl, trivial⟩ h)

end F173
-- loop.example/g01329/impl.isCubic$1
namespace F174
noncomputable def ret (P : PT) : EP := retE T0 5 Try.f174 P
abbrev k0 : Sk := [(0,.i .i64)]
noncomputable def o1 := ob Try.f174 [.r,.l]
def B1 (P : PT) (x0 : Int) (H : AHeap) : Prop :=
  P (Value.bool ((x0 : Int) == 3)) H
theorem q1 (P : PT) : QB Try.prog T0 5 o1 (ret P) k0 (B1 P) := fun _ _ _  => by kernel_rfl
noncomputable def o2 := ob Try.f174 [.l]
def B2 (P : PT) (x0 : Int) (H : AHeap) : Prop :=
  B1 P x0 H
theorem q2 (P : PT) : QB Try.prog T0 5 o2 (En 5 k0 (B1 P)) k0 (B2 P) := fun _ _ _  => by kernel_rfl
noncomputable def code : Code := (.seq (.region 0 ⟨o2⟩ false) (.seq (.region 1 ⟨o1⟩ false) .ret))
theorem body : Try.f174.body = some code := by kernel_rfl
theorem main (P : PT) : ∀ env H, (En 5 k0 (B2 P)) env H → AW Try.prog T0 code env H (mkQ (ret P) (fun _ _ _ => False) (ret P)) :=
  (r_seq (rB T0_ok (q2 P)) (r_seq (rB T0_ok (q1 P)) r_ret))
theorem ac (P : PT) (x0 : Int) (H : AHeap) (h : B2 P x0 H) : AC Try.prog T0 174 [(Value.int .i64 x0)] H P :=
  r_fn T0_ok (c := code) (n := 5) Try.func174 body (by kernel_rfl) (main P) (En_mk (x0, ()) (by kernel_rfl) ⟨by kernel_rfl, trivial⟩ h)

end F174
end Go.Proofs
