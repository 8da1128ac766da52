import Derived.Test.YtkmjiikgkhhciaaT
set_option linter.unusedVariables false
set_option maxRecDepth 100000
namespace Go.Proofs
open Go.Abs
-- loop.example/g01329/laws.FnExactIsOrientedBy
namespace F4
noncomputable def ret (P : PT) : EP := retE T0 74 Try.f4 P
abbrev k0 : Sk := []
noncomputable def o1 := ob Try.f4 [.r,.r,.r,.r,.r,.r,.r,.r,.r,.r,.r,.r,.r,.r,.r,.r,.l]
def B1 (P : PT) (H : AHeap) : Prop :=
  P (Value.bool true) H
theorem q1 (P : PT) : QB Try.prog T0 74 o1 (ret P) k0 (B1 P) := fun _ _  => by kernel_rfl
noncomputable def o2 := ob Try.f4 [.r,.r,.r,.r,.r,.r,.r,.r,.r,.r,.r,.r,.r,.r,.r,.l,.r,.l,.l]
def B2 (P : PT) (H : AHeap) : Prop :=
  P (Value.bool false) H
theorem q2 (P : PT) : QB Try.prog T0 74 o2 (ret P) k0 (B2 P) := fun _ _  => by kernel_rfl
abbrev k1 : Sk := [(2,.v),(12,.v)]
noncomputable def o3 := ob Try.f4 [.r,.r,.r,.r,.r,.r,.r,.r,.r,.r,.r,.r,.r,.r,.r,.l,.l]
def B3 (P : PT) (x2 x12 : Value) (H : AHeap) : Prop :=
  AC Try.prog T0 12 [x2] H (fun v1 H2 => AC Try.prog T0 15 [x12, v1] H2 (fun v4 H5 => asB v4 (fun v6 => pif (!v6) (B2 P H5) (B1 P H5))))
theorem q3 (P : PT) : QB Try.prog T0 74 o3 (cnd 73 (En 74 k0 (B2 P)) (En 74 k0 (B1 P))) k1 (B3 P) := fun _ _ _ _  => by kernel_rfl
noncomputable def o4 := ob Try.f4 [.r,.r,.r,.r,.r,.r,.r,.r,.r,.r,.r,.r,.r,.r,.l,.r,.l,.l]
def B4 (P : PT) (H : AHeap) : Prop :=
  P (Value.bool false) H
theorem q4 (P : PT) : QB Try.prog T0 74 o4 (ret P) k0 (B4 P) := fun _ _  => by kernel_rfl
abbrev k2 : Sk := [(1,.v),(2,.v),(11,.v),(12,.v)]
noncomputable def o5 := ob Try.f4 [.r,.r,.r,.r,.r,.r,.r,.r,.r,.r,.r,.r,.r,.r,.l,.l]
def B5 (P : PT) (x1 x2 x11 x12 : Value) (H : AHeap) : Prop :=
  AC Try.prog T0 18 [x1] H (fun v1 H2 => AC Try.prog T0 20 [x11, v1] H2 (fun v4 H5 => asB v4 (fun v6 => pif (!v6) (B4 P H5) (B3 P x2 x12 H5))))
theorem q5 (P : PT) : QB Try.prog T0 74 o5 (cnd 68 (En 74 k0 (B4 P)) (En 74 k1 (B3 P))) k2 (B5 P) := fun _ _ _ _ _ _  => by kernel_rfl
noncomputable def o6 := ob Try.f4 [.r,.r,.r,.r,.r,.r,.r,.r,.r,.r,.r,.r,.r,.l,.r,.l,.l]
def B6 (P : PT) (H : AHeap) : Prop :=
  P (Value.bool false) H
theorem q6 (P : PT) : QB Try.prog T0 74 o6 (ret P) k0 (B6 P) := fun _ _  => by kernel_rfl
abbrev k3 : Sk := [(1,.v),(2,.v),(3,.x),(10,.x),(11,.v),(12,.v)]
noncomputable def o7 := ob Try.f4 [.r,.r,.r,.r,.r,.r,.r,.r,.r,.r,.r,.r,.r,.l,.l]
def B7 (P : PT) (x1 x2 : Value) (x3 x10 : Nat) (x11 x12 : Value) (H : AHeap) : Prop :=
  ldI .i64 H x10 0 (fun v1 => ld1 H x10 1 (fun v2 => ldI .i64 H x3 0 (fun v3 => ld1 H x3 1 (fun v4 => AC Try.prog T0 11 [(Value.agg ⟨[(Value.int .i64 v3), v4]⟩)] H (fun v5 H6 => agg2 v5 (fun v7 v8 => asI .i64 v7 (fun v9 => (AHeap.le H H6) ∧ (AC Try.prog T0 14 [(Value.agg ⟨[(Value.int .i64 v1), v2]⟩), (Value.agg ⟨[(Value.int .i64 v9), v8]⟩)] H6 (fun v11 H12 => asB v11 (fun v13 => pif (!v13) (B6 P H12) (B5 P x1 x2 x11 x12 H12)))))))))))
theorem q7 (P : PT) : QD Try.prog T0 74 o7 [(0, false), (1, false), (2, true), (3, false), (4, false)] (cnd 63 (En 74 k0 (B6 P)) (En 74 k2 (B5 P))) k3 (B7 P) := fun _ _ _ _ _ _ _ _  => by kernel_rfl
noncomputable def o8 := ob Try.f4 [.r,.r,.r,.r,.r,.r,.r,.r,.r,.r,.r,.r,.l,.r,.l,.l]
def B8 (P : PT) (H : AHeap) : Prop :=
  P (Value.bool false) H
theorem q8 (P : PT) : QB Try.prog T0 74 o8 (ret P) k0 (B8 P) := fun _ _  => by kernel_rfl
abbrev k4 : Sk := [(1,.v),(2,.v),(3,.x),(8,.b),(9,.i .i64),(10,.x),(11,.v),(12,.v),(13,.b),(14,.i .i64)]
noncomputable def o9 := ob Try.f4 [.r,.r,.r,.r,.r,.r,.r,.r,.r,.r,.r,.r,.l,.l]
def B9 (P : PT) (x1 x2 : Value) (x3 : Nat) (x8 : Bool) (x9 : Int) (x10 : Nat) (x11 x12 : Value) (x13 : Bool) (x14 : Int) (H : AHeap) : Prop :=
  pif (!(x13 == x8)) (B8 P H) (pif ((x14 : Int) != x9) (B8 P H) (B7 P x1 x2 x3 x10 x11 x12 H))
theorem q9 (P : PT) : QB Try.prog T0 74 o9 (cnd 58 (En 74 k0 (B8 P)) (En 74 k3 (B7 P))) k4 (B9 P) := fun _ _ _ _ _ _ _ _ _ _ _ _  => by kernel_rfl
abbrev k5 : Sk := [(1,.v),(2,.v),(3,.x),(8,.b),(9,.i .i64),(10,.x),(11,.v),(12,.v)]
noncomputable def o10 := ob Try.f4 [.r,.r,.r,.r,.r,.r,.r,.r,.r,.r,.r,.l]
def B10 (P : PT) (x1 x2 : Value) (x3 : Nat) (x8 : Bool) (x9 : Int) (x10 : Nat) (x11 x12 : Value) (H : AHeap) : Prop :=
  ldI .i64 H x10 0 (fun v1 => ld1 H x10 1 (fun v2 => AC Try.prog T0 19 [(Value.agg ⟨[(Value.int .i64 v1), v2]⟩), x11, x12] H (fun v3 H4 => tup2 v3 (fun v5 v6 => asB v5 (fun v7 => asI .i64 v6 (fun v8 => B9 P x1 x2 x3 x8 x9 x10 x11 x12 v7 v8 H4))))))
theorem q10 (P : PT) : QB Try.prog T0 74 o10 (En 74 k4 (B9 P)) k5 (B10 P) := fun _ _ _ _ _ _ _ _ _ _  => by kernel_rfl
abbrev k6 : Sk := [(1,.v),(2,.v),(3,.x),(8,.b),(9,.i .i64),(10,.x),(11,.v)]
noncomputable def o11 := ob Try.f4 [.r,.r,.r,.r,.r,.r,.r,.r,.r,.r,.l]
def B11 (P : PT) (x1 x2 : Value) (x3 : Nat) (x8 : Bool) (x9 : Int) (x10 : Nat) (x11 : Value) (H : AHeap) : Prop :=
  AC Try.prog T0 12 [x2] H (fun v1 H2 => B10 P x1 x2 x3 x8 x9 x10 x11 v1 H2)
theorem q11 (P : PT) : QB Try.prog T0 74 o11 (En 74 k5 (B10 P)) k6 (B11 P) := fun _ _ _ _ _ _ _ _ _  => by kernel_rfl
abbrev k7 : Sk := [(1,.v),(2,.v),(3,.x),(8,.b),(9,.i .i64),(10,.x)]
noncomputable def o12 := ob Try.f4 [.r,.r,.r,.r,.r,.r,.r,.r,.r,.l]
def B12 (P : PT) (x1 x2 : Value) (x3 : Nat) (x8 : Bool) (x9 : Int) (x10 : Nat) (H : AHeap) : Prop :=
  AC Try.prog T0 18 [x1] H (fun v1 H2 => B11 P x1 x2 x3 x8 x9 x10 v1 H2)
theorem q12 (P : PT) : QB Try.prog T0 74 o12 (En 74 k6 (B11 P)) k7 (B12 P) := fun _ _ _ _ _ _ _ _  => by kernel_rfl
abbrev k8 : Sk := [(1,.v),(2,.v),(3,.x),(8,.b),(9,.i .i64)]
noncomputable def o13 := ob Try.f4 [.r,.r,.r,.r,.r,.r,.r,.r,.l]
def B13 (P : PT) (x1 x2 : Value) (x3 : Nat) (x8 : Bool) (x9 : Int) (H : AHeap) : Prop :=
  ldI .i64 H x3 0 (fun v1 => ld1 H x3 1 (fun v2 => AC Try.prog T0 11 [(Value.agg ⟨[(Value.int .i64 v1), v2]⟩)] H (fun v3 H4 => agg2 v3 (fun v5 v6 => asI .i64 v5 (fun v7 => newK H4 [(Value.int .i64 0), (Value.slice none 0 0)] 31 (fun b9 H10 => stK H10 b9 0 [(Value.int .i64 v7), v6] (fun H11 => B12 P x1 x2 x3 x8 x9 b9 H11)))))))
theorem q13 (P : PT) : QB Try.prog T0 74 o13 (En 74 k7 (B12 P)) k8 (B13 P) := fun _ _ _ _ _ _ _  => by kernel_rfl
abbrev k9 : Sk := [(1,.v),(2,.v),(3,.x)]
noncomputable def o14 := ob Try.f4 [.r,.r,.r,.r,.r,.r,.r,.l]
def B14 (P : PT) (x1 x2 : Value) (x3 : Nat) (H : AHeap) : Prop :=
  ldI .i64 H x3 0 (fun v1 => ld1 H x3 1 (fun v2 => AC Try.prog T0 11 [(Value.agg ⟨[(Value.int .i64 v1), v2]⟩)] H (fun v3 H4 => agg2 v3 (fun v5 v6 => asI .i64 v5 (fun v7 => AC Try.prog T0 18 [x1] H4 (fun v9 H10 => AC Try.prog T0 12 [x2] H10 (fun v12 H13 => AC Try.prog T0 17 [(Value.agg ⟨[(Value.int .i64 v7), v6]⟩), v9, v12] H13 (fun v15 H16 => tup2 v15 (fun v17 v18 => asB v17 (fun v19 => asI .i64 v18 (fun v20 => B13 P x1 x2 x3 v19 v20 H16)))))))))))
theorem q14 (P : PT) : QB Try.prog T0 74 o14 (En 74 k8 (B13 P)) k9 (B14 P) := fun _ _ _ _ _  => by kernel_rfl
noncomputable def o15 := ob Try.f4 [.r,.r,.r,.r,.r,.r,.l,.r,.l,.l]
def B15 (P : PT) (H : AHeap) : Prop :=
  P (Value.bool true) H
theorem q15 (P : PT) : QB Try.prog T0 74 o15 (ret P) k0 (B15 P) := fun _ _  => by kernel_rfl
abbrev k10 : Sk := [(1,.v),(2,.v),(3,.x),(7,.i .i64)]
noncomputable def o16 := ob Try.f4 [.r,.r,.r,.r,.r,.r,.l,.l]
def B16 (P : PT) (x1 x2 : Value) (x3 : Nat) (x7 : Int) (H : AHeap) : Prop :=
  pif (decide ((x7 : Int) < 0)) (B15 P H) (B14 P x1 x2 x3 H)
theorem q16 (P : PT) : QB Try.prog T0 74 o16 (cnd 27 (En 74 k0 (B15 P)) (En 74 k9 (B14 P))) k10 (B16 P) := fun _ _ _ _ _ _  => by kernel_rfl
noncomputable def o17 := ob Try.f4 [.r,.r,.r,.r,.r,.l]
def B17 (P : PT) (x1 x2 : Value) (x3 : Nat) (x7 : Int) (H : AHeap) : Prop :=
  AC Try.prog T0 16 [x1, (Value.int .i64 x7)] H (fun v1 H2 => asI .i64 v1 (fun v3 => B16 P x1 x2 x3 v3 H2))
theorem q17 (P : PT) : QB Try.prog T0 74 o17 (En 74 k10 (B16 P)) k10 (B17 P) := fun _ _ _ _ _ _  => by kernel_rfl
noncomputable def o18 := ob Try.f4 [.r,.r,.r,.r,.l,.r,.l,.l]
def B18 (P : PT) (H : AHeap) : Prop :=
  P (Value.bool true) H
theorem q18 (P : PT) : QB Try.prog T0 74 o18 (ret P) k0 (B18 P) := fun _ _  => by kernel_rfl
noncomputable def o19 := ob Try.f4 [.r,.r,.r,.r,.l,.l]
def B19 (P : PT) (x1 x2 : Value) (x3 : Nat) (x7 : Int) (H : AHeap) : Prop :=
  pif (decide ((x7 : Int) < 0)) (B18 P H) (B17 P x1 x2 x3 x7 H)
theorem q19 (P : PT) : QB Try.prog T0 74 o19 (cnd 22 (En 74 k0 (B18 P)) (En 74 k10 (B17 P))) k10 (B19 P) := fun _ _ _ _ _ _  => by kernel_rfl
noncomputable def o20 := ob Try.f4 [.r,.r,.r,.l]
def B20 (P : PT) (x1 x2 : Value) (x3 : Nat) (x7 : Int) (H : AHeap) : Prop :=
  ldI .i64 H x3 0 (fun v1 => ld1 H x3 1 (fun v2 => AC Try.prog T0 9 [(Value.agg ⟨[(Value.int .i64 v1), v2]⟩), (Value.int .i64 x7)] H (fun v3 H4 => asI .i64 v3 (fun v5 => B19 P x1 x2 x3 v5 H4))))
theorem q20 (P : PT) : QB Try.prog T0 74 o20 (En 74 k10 (B19 P)) k10 (B20 P) := fun _ _ _ _ _ _  => by kernel_rfl
noncomputable def o21 := ob Try.f4 [.r,.r,.l]
def B21 (P : PT) (x1 x2 : Value) (x3 : Nat) (H : AHeap) : Prop :=
  B20 P x1 x2 x3 1048576 H
theorem q21 (P : PT) : QB Try.prog T0 74 o21 (En 74 k10 (B20 P)) k9 (B21 P) := fun _ _ _ _ _  => by kernel_rfl
noncomputable def o22 := ob Try.f4 [.r,.l,.r,.l,.l]
def B22 (P : PT) (H : AHeap) : Prop :=
  P (Value.bool true) H
theorem q22 (P : PT) : QB Try.prog T0 74 o22 (ret P) k0 (B22 P) := fun _ _  => by kernel_rfl
noncomputable def o23 := ob Try.f4 [.r,.l,.l]
def B23 (P : PT) (x1 x2 : Value) (x3 : Nat) (H : AHeap) : Prop :=
  lenK x2 (fun n1 => pif (decide (((n1 : Int) : Int) > 1048576)) (B22 P H) (B21 P x1 x2 x3 H))
theorem q23 (P : PT) : QB Try.prog T0 74 o23 (cnd 17 (En 74 k0 (B22 P)) (En 74 k9 (B21 P))) k9 (B23 P) := fun _ _ _ _ _  => by kernel_rfl
abbrev k11 : Sk := [(0,.g [.i,.v]),(1,.v),(2,.v)]
noncomputable def o24 := ob Try.f4 [.l]
def B24 (P : PT) (x0a : Int) (x0b x1 x2 : Value) (H : AHeap) : Prop :=
  newK H [(Value.int .i64 x0a), x0b] 24 (fun b1 H2 => B23 P x1 x2 b1 H2)
theorem q24 (P : PT) : QB Try.prog T0 74 o24 (En 74 k9 (B23 P)) k11 (B24 P) := fun _ _ _ _ _ _  => by kernel_rfl
noncomputable def code : Code := (.seq (.region 0 ⟨o24⟩ false) (.seq (.seq (.region 1 ⟨o23⟩ false) (.cond (.tmp 17) (.seq (.region 2 ⟨o22⟩ false) .ret) .skip)) (.seq (.region 3 ⟨o21⟩ false) (.seq (.region 4 ⟨o20⟩ false) (.seq (.seq (.region 5 ⟨o19⟩ false) (.cond (.tmp 22) (.seq (.region 6 ⟨o18⟩ false) .ret) .skip)) (.seq (.region 7 ⟨o17⟩ false) (.seq (.seq (.region 8 ⟨o16⟩ false) (.cond (.tmp 27) (.seq (.region 9 ⟨o15⟩ false) .ret) .skip)) (.seq (.region 10 ⟨o14⟩ false) (.seq (.region 11 ⟨o13⟩ false) (.seq (.region 12 ⟨o12⟩ false) (.seq (.region 13 ⟨o11⟩ false) (.seq (.region 14 ⟨o10⟩ false) (.seq (.seq (.region 15 ⟨o9⟩ false) (.cond (.tmp 58) (.seq (.region 16 ⟨o8⟩ false) .ret) .skip)) (.seq (.seq (.region 17 ⟨o7⟩ true) (.cond (.tmp 63) (.seq (.region 18 ⟨o6⟩ false) .ret) .skip)) (.seq (.seq (.region 19 ⟨o5⟩ false) (.cond (.tmp 68) (.seq (.region 20 ⟨o4⟩ false) .ret) .skip)) (.seq (.seq (.region 21 ⟨o3⟩ false) (.cond (.tmp 73) (.seq (.region 22 ⟨o2⟩ false) .ret) .skip)) (.seq (.region 23 ⟨o1⟩ false) .ret)))))))))))))))))
theorem body : Try.f4.body = some code := by kernel_rfl
theorem main (P : PT) : ∀ env H, (En 74 k11 (B24 P)) env H → AW Try.prog T0 code env H (mkQ (ret P) (fun _ _ _ => False) (ret P)) :=
  (r_seq (rB T0_ok (q24 P)) (r_seq (r_seq (rB T0_ok (q23 P)) (r_cond rfl (r_seq (rB T0_ok (q22 P)) r_ret) r_skip)) (r_seq (rB T0_ok (q21 P)) (r_seq (rB T0_ok (q20 P)) (r_seq (r_seq (rB T0_ok (q19 P)) (r_cond rfl (r_seq (rB T0_ok (q18 P)) r_ret) r_skip)) (r_seq (rB T0_ok (q17 P)) (r_seq (r_seq (rB T0_ok (q16 P)) (r_cond rfl (r_seq (rB T0_ok (q15 P)) r_ret) r_skip)) (r_seq (rB T0_ok (q14 P)) (r_seq (rB T0_ok (q13 P)) (r_seq (rB T0_ok (q12 P)) (r_seq (rB T0_ok (q11 P)) (r_seq (rB T0_ok (q10 P)) (r_seq (r_seq (rB T0_ok (q9 P)) (r_cond rfl (r_seq (rB T0_ok (q8 P)) r_ret) r_skip)) (r_seq (r_seq (rD T0_ok mixed [(0, false), (1, false), (2, true), (3, false), (4, false)] (by kernel_rfl) (q7 P)) (r_cond rfl (r_seq (rB T0_ok (q6 P)) r_ret) r_skip)) (r_seq (r_seq (rB T0_ok (q5 P)) (r_cond rfl (r_seq (rB T0_ok (q4 P)) r_ret) r_skip)) (r_seq (r_seq (rB T0_ok (q3 P)) (r_cond rfl (r_seq (rB T0_ok (q2 P)) r_ret) r_skip)) (r_seq (rB T0_ok (q1 P)) r_ret)))))))))))))))))
theorem ac (P : PT) (x0a : Int) (x0b x1 x2 : Value) (H : AHeap) (h : B24 P x0a x0b x1 x2 H) : AC Try.prog T0 4 [(Value.agg ⟨[(Value.int .i64 x0a), x0b]⟩), x1, x2] H P :=
  r_fn T0_ok (c := code) (n := 74) Try.func4 body (by kernel_rfl) (main P) (En_mk (x0a, x0b, x1, x2, ()) (by kernel_rfl) ⟨by kernel_rfl, by kernel_rfl, by kernel_rfl, trivial⟩ h)

end F4
-- loop.example/g01329/laws.szGraph
namespace F9
noncomputable def ret (P : PT) : EP := retE T0 12 Try.f9 P
abbrev k0 : Sk := [(1,.i .i64)]
noncomputable def o1 := ob Try.f9 [.r,.r,.r,.l]
def B1 (P : PT) (x1 : Int) (H : AHeap) : Prop :=
  P (Value.int .i64 x1) H
theorem q1 (P : PT) : QB Try.prog T0 12 o1 (ret P) k0 (B1 P) := fun _ _ _  => by kernel_rfl
abbrev k1 : Sk := []
noncomputable def o2 := ob Try.f9 [.r,.r,.l,.r,.l,.l]
def B2 (P : PT) (H : AHeap) : Prop :=
  P (Value.int .i64 (-1)) H
theorem q2 (P : PT) : QB Try.prog T0 12 o2 (ret P) k1 (B2 P) := fun _ _  => by kernel_rfl
noncomputable def o3 := ob Try.f9 [.r,.r,.l,.l]
def B3 (P : PT) (x1 : Int) (H : AHeap) : Prop :=
  pif (decide ((x1 : Int) < 0)) (B2 P H) (B1 P x1 H)
theorem q3 (P : PT) : QB Try.prog T0 12 o3 (cnd 10 (En 12 k1 (B2 P)) (En 12 k0 (B1 P))) k0 (B3 P) := fun _ _ _  => by kernel_rfl
abbrev k2 : Sk := [(1,.i .i64),(2,.x)]
noncomputable def o4 := ob Try.f9 [.r,.l]
def B4 (P : PT) (x1 : Int) (x2 : Nat) (H : AHeap) : Prop :=
  ld1 H x2 1 (fun v1 => AC Try.prog T0 35 [v1, (Value.int .i64 x1)] H (fun v2 H3 => asI .i64 v2 (fun v4 => B3 P v4 H3)))
theorem q4 (P : PT) : QB Try.prog T0 12 o4 (En 12 k0 (B3 P)) k2 (B4 P) := fun _ _ _ _  => by kernel_rfl
abbrev k3 : Sk := [(0,.g [.i,.v]),(1,.i .i64)]
noncomputable def o5 := ob Try.f9 [.l]
def B5 (P : PT) (x0a : Int) (x0b : Value) (x1 : Int) (H : AHeap) : Prop :=
  newK H [(Value.int .i64 x0a), x0b] 24 (fun b1 H2 => B4 P x1 b1 H2)
theorem q5 (P : PT) : QB Try.prog T0 12 o5 (En 12 k2 (B4 P)) k3 (B5 P) := fun _ _ _ _ _  => by kernel_rfl
noncomputable def code : Code := (.seq (.region 0 ⟨o5⟩ false) (.seq (.region 1 ⟨o4⟩ false) (.seq (.seq (.region 2 ⟨o3⟩ false) (.cond (.tmp 10) (.seq (.region 3 ⟨o2⟩ false) .ret) .skip)) (.seq (.region 4 ⟨o1⟩ false) .ret))))
theorem body : Try.f9.body = some code := by kernel_rfl
theorem main (P : PT) : ∀ env H, (En 12 k3 (B5 P)) env H → AW Try.prog T0 code env H (mkQ (ret P) (fun _ _ _ => False) (ret P)) :=
  (r_seq (rB T0_ok (q5 P)) (r_seq (rB T0_ok (q4 P)) (r_seq (r_seq (rB T0_ok (q3 P)) (r_cond rfl (r_seq (rB T0_ok (q2 P)) r_ret) r_skip)) (r_seq (rB T0_ok (q1 P)) r_ret))))
theorem ac (P : PT) (x0a : Int) (x0b : Value) (x1 : Int) (H : AHeap) (h : B5 P x0a x0b x1 H) : AC Try.prog T0 9 [(Value.agg ⟨[(Value.int .i64 x0a), x0b]⟩), (Value.int .i64 x1)] H P :=
  r_fn T0_ok (c := code) (n := 12) Try.func9 body (by kernel_rfl) (main P) (En_mk (x0a, x0b, x1, ()) (by kernel_rfl) ⟨by kernel_rfl, by kernel_rfl, trivial⟩ h)

end F9
-- loop.example/g01329/laws.toGraph
namespace F11
noncomputable def ret (P : PT) : EP := retE T0 12 Try.f11 P
abbrev k0 : Sk := [(2,.x),(3,.x)]
noncomputable def o1 := ob Try.f11 [.r,.r,.r,.r,.l]
def B1 (P : PT) (x2 x3 : Nat) (H : AHeap) : Prop :=
  ldI .i64 H x3 0 (fun v1 => ld1 H x3 1 (fun v2 => stK H x2 0 [(Value.int .i64 v1), v2] (fun H3 => ldI .i64 H3 x2 0 (fun v4 => ld1 H3 x2 1 (fun v5 => P (Value.agg ⟨[(Value.int .i64 v4), v5]⟩) H3)))))
theorem q1 (P : PT) : QB Try.prog T0 12 o1 (ret P) k0 (B1 P) := fun _ _ _ _  => by kernel_rfl
abbrev k1 : Sk := [(1,.x),(2,.x),(3,.x)]
noncomputable def o2 := ob Try.f11 [.r,.r,.r,.l]
def B2 (P : PT) (x1 x2 x3 : Nat) (H : AHeap) : Prop :=
  ld1 H x1 1 (fun v1 => AC Try.prog T0 40 [v1] H (fun v2 H3 => pif (Value.oneCell' v2) (stK H3 x3 1 [v2] (fun H5 => B1 P x2 x3 H5)) False))
theorem q2 (P : PT) : QB Try.prog T0 12 o2 (En 12 k0 (B1 P)) k1 (B2 P) := fun _ _ _ _ _  => by kernel_rfl
noncomputable def o3 := ob Try.f11 [.r,.r,.l]
def B3 (P : PT) (x1 x2 x3 : Nat) (H : AHeap) : Prop :=
  ldI .i64 H x1 0 (fun v1 => stK H x3 0 [(Value.int .i64 v1)] (fun H2 => B2 P x1 x2 x3 H2))
theorem q3 (P : PT) : QB Try.prog T0 12 o3 (En 12 k1 (B2 P)) k1 (B3 P) := fun _ _ _ _ _  => by kernel_rfl
abbrev k2 : Sk := [(1,.x),(2,.x)]
noncomputable def o4 := ob Try.f11 [.r,.l]
def B4 (P : PT) (x1 x2 : Nat) (H : AHeap) : Prop :=
  newK H [(Value.int .i64 0), (Value.slice none 0 0)] 31 (fun b1 H2 => B3 P x1 x2 b1 H2)
theorem q4 (P : PT) : QB Try.prog T0 12 o4 (En 12 k1 (B3 P)) k2 (B4 P) := fun _ _ _ _  => by kernel_rfl
abbrev k3 : Sk := [(0,.g [.i,.v])]
noncomputable def o5 := ob Try.f11 [.l]
def B5 (P : PT) (x0a : Int) (x0b : Value) (H : AHeap) : Prop :=
  newK H [(Value.int .i64 x0a), x0b] 24 (fun b1 H2 => newK H2 [(Value.int .i64 0), (Value.slice none 0 0)] 31 (fun b3 H4 => B4 P b1 b3 H4))
theorem q5 (P : PT) : QB Try.prog T0 12 o5 (En 12 k2 (B4 P)) k3 (B5 P) := fun _ _ _ _  => by kernel_rfl
noncomputable def code : Code := (.seq (.region 0 ⟨o5⟩ false) (.seq (.region 1 ⟨o4⟩ false) (.seq (.region 2 ⟨o3⟩ false) (.seq (.region 3 ⟨o2⟩ false) (.seq (.region 4 ⟨o1⟩ false) .ret)))))
theorem body : Try.f11.body = some code := by kernel_rfl
theorem main (P : PT) : ∀ env H, (En 12 k3 (B5 P)) env H → AW Try.prog T0 code env H (mkQ (ret P) (fun _ _ _ => False) (ret P)) :=
  (r_seq (rB T0_ok (q5 P)) (r_seq (rB T0_ok (q4 P)) (r_seq (rB T0_ok (q3 P)) (r_seq (rB T0_ok (q2 P)) (r_seq (rB T0_ok (q1 P)) r_ret)))))
theorem ac (P : PT) (x0a : Int) (x0b : Value) (H : AHeap) (h : B5 P x0a x0b H) : AC Try.prog T0 11 [(Value.agg ⟨[(Value.int .i64 x0a), x0b]⟩)] H P :=
  r_fn T0_ok (c := code) (n := 12) Try.func11 body (by kernel_rfl) (main P) (En_mk (x0a, x0b, ()) (by kernel_rfl) ⟨by kernel_rfl, trivial⟩ h)

end F11
-- loop.example/g01329/laws.toInt64S
namespace F12
noncomputable def ret (P : PT) : EP := retE T0 22 Try.f12 P
abbrev k0 : Sk := [(3,.v)]
noncomputable def o1 := ob Try.f12 [.r,.r,.r,.l]
def B1 (P : PT) (x3 : Value) (H : AHeap) : Prop :=
  P x3 H
theorem q1 (P : PT) : QB Try.prog T0 22 o1 (ret P) k0 (B1 P) := fun _ _ _  => by kernel_rfl
abbrev k1 : Sk := [(0,.v),(3,.v),(4,.i .i64)]
noncomputable def o3 := ob Try.f12 [.r,.r,.l,.r,.l,.l,.r,.r]
def B3 (P : PT) (N2 : NTy k1 Pr) (x0 x3 : Value) (x4 : Int) (H : AHeap) : Prop :=
  N2 x0 x3 (IntKind.i64.wrap (x4 + 1)) H
theorem q3 (P : PT) (N2 : NTy k1 Pr) : QB Try.prog T0 22 o3 (En 22 k1 N2) k1 (B3 P N2) := fun _ _ _ _ _  => by kernel_rfl
noncomputable def o4 := ob Try.f12 [.r,.r,.l,.r,.l,.l,.r,.l,.l]
def B4 (P : PT) (N2 : NTy k1 Pr) (x0 x3 : Value) (x4 : Int) (H : AHeap) : Prop :=
  idxK x0 x4 1 (fun b1 o2 => ldI .i64 H b1 o2 (fun v3 => idxK x3 x4 1 (fun b4 o5 => stK H b4 o5 [(Value.int .i64 v3)] (fun H6 => B3 P N2 x0 x3 x4 H6))))
theorem q4 (P : PT) (N2 : NTy k1 Pr) : QB Try.prog T0 22 o4 (En 22 k1 (B3 P N2)) k1 (B4 P N2) := fun _ _ _ _ _  => by kernel_rfl
noncomputable def o5 := ob Try.f12 [.r,.r,.l,.r,.l,.l,.l,.l]
def B5 (P : PT) (N2 : NTy k1 Pr) (x0 x3 : Value) (x4 : Int) (H : AHeap) : Prop :=
  lenK x0 (fun n1 => pif (decide ((x4 : Int) < (n1 : Int))) (B4 P N2 x0 x3 x4 H) (B1 P x3 H))
theorem q5 (P : PT) (N2 : NTy k1 Pr) : QB Try.prog T0 22 o5 (cnd 11 (En 22 k1 (B4 P N2)) (En 22 k0 (B1 P))) k1 (B5 P N2) := fun _ _ _ _ _  => by kernel_rfl
def L2 (P : PT) (x0 x3 : Value) (x4 : Int) (H : AHeap) : Prop :=
  ∃ (I : NTy k1 Pr) (μ : NTy k1 (AHeap → Nat)), I x0 x3 x4 H ∧ ∀ y0 y3 y4 G, I y0 y3 y4 G → B5 P (fun z0 z3 z4 G' => I z0 z3 z4 G' ∧ μ z0 z3 z4 G' < μ y0 y3 y4 G) y0 y3 y4 G
theorem l2 (P : PT) : LQ k1 (L2 P) (B5 P) := fun ⟨_,_,_,_⟩ _ ⟨I, μ, h0, hI⟩ => ⟨apT _ I, apT _ μ, h0, fun ⟨_,_,_,_⟩ _ h => hI _ _ _ _  h⟩
abbrev k2 : Sk := [(0,.v),(3,.v)]
noncomputable def o6 := ob Try.f12 [.r,.r,.l,.l]
def B6 (P : PT) (x0 x3 : Value) (H : AHeap) : Prop :=
  L2 P x0 x3 0 H
theorem q6 (P : PT) : QB Try.prog T0 22 o6 (En 22 k1 (L2 P)) k2 (B6 P) := fun _ _ _ _  => by kernel_rfl
abbrev k3 : Sk := [(0,.v)]
noncomputable def o7 := ob Try.f12 [.r,.l]
def B7 (P : PT) (x0 : Value) (H : AHeap) : Prop :=
  lenK x0 (fun n1 => mkR H 8 2 [(Value.int .i64 0)] (n1 : Int) (n1 : Int) (fun v3 H2 => B6 P x0 v3 H2))
theorem q7 (P : PT) : QB Try.prog T0 22 o7 (En 22 k2 (B6 P)) k3 (B7 P) := fun _ _ _  => by kernel_rfl
noncomputable def o8 := ob Try.f12 [.l]
def B8 (P : PT) (x0 : Value) (H : AHeap) : Prop :=
  B7 P x0 H
theorem q8 (P : PT) : QB Try.prog T0 22 o8 (En 22 k3 (B7 P)) k3 (B8 P) := fun _ _ _  => by kernel_rfl
noncomputable def code : Code := (.seq (.region 0 ⟨o8⟩ false) (.seq (.region 1 ⟨o7⟩ false) (.seq (.seq (.region 2 ⟨o6⟩ false) (.block 0 (.loop (.seq (.seq (.region 3 ⟨o5⟩ false) (.cond (.tmp 11) .skip (.exit 0))) (.seq (.block 1 (.region 5 ⟨o4⟩ false)) (.region 4 ⟨o3⟩ false)))))) (.seq (.region 6 ⟨o1⟩ false) .ret))))
theorem body : Try.f12.body = some code := by kernel_rfl
theorem main (P : PT) : ∀ env H, (En 22 k3 (B8 P)) env H → AW Try.prog T0 code env H (mkQ (ret P) (fun _ _ _ => False) (ret P)) :=
  (r_seq (rB T0_ok (q8 P)) (r_seq (rB T0_ok (q7 P)) (r_seq (r_seq (rB T0_ok (q6 P)) (r_block (rL (l2 P) (fun N2 => (r_seq (r_seq (rB T0_ok (q5 P N2)) (r_cond rfl r_skip (r_exit (fun _ _ h => h)))) (r_seq (r_block (rB T0_ok (q4 P N2))) (rB T0_ok (q3 P N2)))))))) (r_seq (rB T0_ok (q1 P)) r_ret))))
theorem ac (P : PT) (x0 : Value) (H : AHeap) (h : B8 P x0 H) : AC Try.prog T0 12 [x0] H P :=
  r_fn T0_ok (c := code) (n := 22) Try.func12 body (by kernel_rfl) (main P) (En_mk (x0, ()) (by kernel_rfl) ⟨by kernel_rfl, trivial⟩ h)

end F12
-- loop.example/g01329/laws.eqGraph
namespace F14
noncomputable def ret (P : PT) : EP := retE T0 16 Try.f14 P
abbrev k0 : Sk := []
noncomputable def o1 := ob Try.f14 [.r,.r,.r,.l]
def B1 (P : PT) (H : AHeap) : Prop :=
  P (Value.bool true) H
theorem q1 (P : PT) : QB Try.prog T0 16 o1 (ret P) k0 (B1 P) := fun _ _  => by kernel_rfl
noncomputable def o2 := ob Try.f14 [.r,.r,.l,.r,.l,.l]
def B2 (P : PT) (H : AHeap) : Prop :=
  P (Value.bool false) H
theorem q2 (P : PT) : QB Try.prog T0 16 o2 (ret P) k0 (B2 P) := fun _ _  => by kernel_rfl
abbrev k1 : Sk := [(2,.x),(3,.x)]
noncomputable def o3 := ob Try.f14 [.r,.r,.l,.l]
def B3 (P : PT) (x2 x3 : Nat) (H : AHeap) : Prop :=
  ld1 H x2 1 (fun v1 => ld1 H x3 1 (fun v2 => AC Try.prog T0 46 [v1, v2] H (fun v3 H4 => asB v3 (fun v5 => pif (!v5) (B2 P H4) (B1 P H4)))))
theorem q3 (P : PT) : QB Try.prog T0 16 o3 (cnd 15 (En 16 k0 (B2 P)) (En 16 k0 (B1 P))) k1 (B3 P) := fun _ _ _ _  => by kernel_rfl
noncomputable def o4 := ob Try.f14 [.r,.l,.r,.l,.l]
def B4 (P : PT) (H : AHeap) : Prop :=
  P (Value.bool false) H
theorem q4 (P : PT) : QB Try.prog T0 16 o4 (ret P) k0 (B4 P) := fun _ _  => by kernel_rfl
noncomputable def o5 := ob Try.f14 [.r,.l,.l]
def B5 (P : PT) (x2 x3 : Nat) (H : AHeap) : Prop :=
  ldI .i64 H x2 0 (fun v1 => ldI .i64 H x3 0 (fun v2 => pif ((v1 : Int) != v2) (B4 P H) (B3 P x2 x3 H)))
theorem q5 (P : PT) : QB Try.prog T0 16 o5 (cnd 9 (En 16 k0 (B4 P)) (En 16 k1 (B3 P))) k1 (B5 P) := fun _ _ _ _  => by kernel_rfl
abbrev k2 : Sk := [(0,.g [.i,.v]),(1,.g [.i,.v])]
noncomputable def o6 := ob Try.f14 [.l]
def B6 (P : PT) (x0a : Int) (x0b : Value) (x1a : Int) (x1b : Value) (H : AHeap) : Prop :=
  newK H [(Value.int .i64 x0a), x0b] 31 (fun b1 H2 => newK H2 [(Value.int .i64 x1a), x1b] 31 (fun b3 H4 => B5 P b1 b3 H4))
theorem q6 (P : PT) : QB Try.prog T0 16 o6 (En 16 k1 (B5 P)) k2 (B6 P) := fun _ _ _ _ _ _  => by kernel_rfl
noncomputable def code : Code := (.seq (.region 0 ⟨o6⟩ false) (.seq (.seq (.region 1 ⟨o5⟩ false) (.cond (.tmp 9) (.seq (.region 2 ⟨o4⟩ false) .ret) .skip)) (.seq (.seq (.region 3 ⟨o3⟩ false) (.cond (.tmp 15) (.seq (.region 4 ⟨o2⟩ false) .ret) .skip)) (.seq (.region 5 ⟨o1⟩ false) .ret))))
theorem body : Try.f14.body = some code := by kernel_rfl
theorem main (P : PT) : ∀ env H, (En 16 k2 (B6 P)) env H → AW Try.prog T0 code env H (mkQ (ret P) (fun _ _ _ => False) (ret P)) :=
  (r_seq (rB T0_ok (q6 P)) (r_seq (r_seq (rB T0_ok (q5 P)) (r_cond rfl (r_seq (rB T0_ok (q4 P)) r_ret) r_skip)) (r_seq (r_seq (rB T0_ok (q3 P)) (r_cond rfl (r_seq (rB T0_ok (q2 P)) r_ret) r_skip)) (r_seq (rB T0_ok (q1 P)) r_ret))))
theorem ac (P : PT) (x0a : Int) (x0b : Value) (x1a : Int) (x1b : Value) (H : AHeap) (h : B6 P x0a x0b x1a x1b H) : AC Try.prog T0 14 [(Value.agg ⟨[(Value.int .i64 x0a), x0b]⟩), (Value.agg ⟨[(Value.int .i64 x1a), x1b]⟩)] H P :=
  r_fn T0_ok (c := code) (n := 16) Try.func14 body (by kernel_rfl) (main P) (En_mk (x0a, x0b, x1a, x1b, ()) (by kernel_rfl) ⟨by kernel_rfl, by kernel_rfl, trivial⟩ h)

end F14
-- loop.example/g01329/laws.eqInt64S
namespace F15
noncomputable def ret (P : PT) : EP := retE T0 26 Try.f15 P
abbrev k0 : Sk := []
noncomputable def o1 := ob Try.f15 [.r,.r,.r,.l]
def B1 (P : PT) (H : AHeap) : Prop :=
  P (Value.bool true) H
theorem q1 (P : PT) : QB Try.prog T0 26 o1 (ret P) k0 (B1 P) := fun _ _  => by kernel_rfl
abbrev k1 : Sk := [(0,.v),(1,.v),(5,.i .i64)]
noncomputable def o3 := ob Try.f15 [.r,.r,.l,.r,.l,.l,.r,.r]
def B3 (P : PT) (N2 : NTy k1 Pr) (x0 x1 : Value) (x5 : Int) (H : AHeap) : Prop :=
  N2 x0 x1 (IntKind.i64.wrap (x5 + 1)) H
theorem q3 (P : PT) (N2 : NTy k1 Pr) : QB Try.prog T0 26 o3 (En 26 k1 N2) k1 (B3 P N2) := fun _ _ _ _ _  => by kernel_rfl
noncomputable def o4 := ob Try.f15 [.r,.r,.l,.r,.l,.l,.r,.l,.l,.r,.l,.l]
def B4 (P : PT) (N2 : NTy k1 Pr) (H : AHeap) : Prop :=
  P (Value.bool false) H
theorem q4 (P : PT) (N2 : NTy k1 Pr) : QB Try.prog T0 26 o4 (ret P) k0 (B4 P N2) := fun _ _  => by kernel_rfl
noncomputable def o5 := ob Try.f15 [.r,.r,.l,.r,.l,.l,.r,.l,.l,.l]
def B5 (P : PT) (N2 : NTy k1 Pr) (x0 x1 : Value) (x5 : Int) (H : AHeap) : Prop :=
  idxK x0 x5 1 (fun b1 o2 => ldI .i64 H b1 o2 (fun v3 => idxK x1 x5 1 (fun b4 o5 => ldI .i64 H b4 o5 (fun v6 => pif ((v3 : Int) != v6) (B4 P N2 H) (B3 P N2 x0 x1 x5 H)))))
theorem q5 (P : PT) (N2 : NTy k1 Pr) : QD Try.prog T0 26 o5 [(0, false), (1, false), (2, false), (3, false), (4, false), (5, false), (6, false), (7, false), (8, false)] (cnd 25 (En 26 k0 (B4 P N2)) (En 26 k1 (B3 P N2))) k1 (B5 P N2) := fun _ _ _ _ _  => by kernel_rfl
noncomputable def o6 := ob Try.f15 [.r,.r,.l,.r,.l,.l,.l,.l]
def B6 (P : PT) (N2 : NTy k1 Pr) (x0 x1 : Value) (x5 : Int) (H : AHeap) : Prop :=
  lenK x0 (fun n1 => pif (decide ((x5 : Int) < (n1 : Int))) (B5 P N2 x0 x1 x5 H) (B1 P H))
theorem q6 (P : PT) (N2 : NTy k1 Pr) : QB Try.prog T0 26 o6 (cnd 14 (En 26 k1 (B5 P N2)) (En 26 k0 (B1 P))) k1 (B6 P N2) := fun _ _ _ _ _  => by kernel_rfl
def L2 (P : PT) (x0 x1 : Value) (x5 : Int) (H : AHeap) : Prop :=
  ∃ (I : NTy k1 Pr) (μ : NTy k1 (AHeap → Nat)), I x0 x1 x5 H ∧ ∀ y0 y1 y5 G, I y0 y1 y5 G → B6 P (fun z0 z1 z5 G' => I z0 z1 z5 G' ∧ μ z0 z1 z5 G' < μ y0 y1 y5 G) y0 y1 y5 G
theorem l2 (P : PT) : LQ k1 (L2 P) (B6 P) := fun ⟨_,_,_,_⟩ _ ⟨I, μ, h0, hI⟩ => ⟨apT _ I, apT _ μ, h0, fun ⟨_,_,_,_⟩ _ h => hI _ _ _ _  h⟩
abbrev k2 : Sk := [(0,.v),(1,.v)]
noncomputable def o7 := ob Try.f15 [.r,.r,.l,.l]
def B7 (P : PT) (x0 x1 : Value) (H : AHeap) : Prop :=
  L2 P x0 x1 0 H
theorem q7 (P : PT) : QB Try.prog T0 26 o7 (En 26 k1 (L2 P)) k2 (B7 P) := fun _ _ _ _  => by kernel_rfl
noncomputable def o8 := ob Try.f15 [.r,.l,.r,.l,.l]
def B8 (P : PT) (H : AHeap) : Prop :=
  P (Value.bool false) H
theorem q8 (P : PT) : QB Try.prog T0 26 o8 (ret P) k0 (B8 P) := fun _ _  => by kernel_rfl
noncomputable def o9 := ob Try.f15 [.r,.l,.l]
def B9 (P : PT) (x0 x1 : Value) (H : AHeap) : Prop :=
  lenK x0 (fun n1 => lenK x1 (fun n2 => pif (((n1 : Int) : Int) != (n2 : Int)) (B8 P H) (B7 P x0 x1 H)))
theorem q9 (P : PT) : QB Try.prog T0 26 o9 (cnd 10 (En 26 k0 (B8 P)) (En 26 k2 (B7 P))) k2 (B9 P) := fun _ _ _ _  => by kernel_rfl
noncomputable def o10 := ob Try.f15 [.l]
def B10 (P : PT) (x0 x1 : Value) (H : AHeap) : Prop :=
  B9 P x0 x1 H
theorem q10 (P : PT) : QB Try.prog T0 26 o10 (En 26 k2 (B9 P)) k2 (B10 P) := fun _ _ _ _  => by kernel_rfl
noncomputable def code : Code := (.seq (.region 0 ⟨o10⟩ false) (.seq (.seq (.region 1 ⟨o9⟩ false) (.cond (.tmp 10) (.seq (.region 2 ⟨o8⟩ false) .ret) .skip)) (.seq (.seq (.region 3 ⟨o7⟩ false) (.block 0 (.loop (.seq (.seq (.region 4 ⟨o6⟩ false) (.cond (.tmp 14) .skip (.exit 0))) (.seq (.block 1 (.seq (.region 6 ⟨o5⟩ true) (.cond (.tmp 25) (.seq (.region 7 ⟨o4⟩ false) .ret) .skip))) (.region 5 ⟨o3⟩ false)))))) (.seq (.region 8 ⟨o1⟩ false) .ret))))
theorem body : Try.f15.body = some code := by kernel_rfl
theorem main (P : PT) : ∀ env H, (En 26 k2 (B10 P)) env H → AW Try.prog T0 code env H (mkQ (ret P) (fun _ _ _ => False) (ret P)) :=
  (r_seq (rB T0_ok (q10 P)) (r_seq (r_seq (rB T0_ok (q9 P)) (r_cond rfl (r_seq (rB T0_ok (q8 P)) r_ret) r_skip)) (r_seq (r_seq (rB T0_ok (q7 P)) (r_block (rL (l2 P) (fun N2 => (r_seq (r_seq (rB T0_ok (q6 P N2)) (r_cond rfl r_skip (r_exit (fun _ _ h => h)))) (r_seq (r_block (r_seq (rD T0_ok mixed [(0, false), (1, false), (2, false), (3, false), (4, false), (5, false), (6, false), (7, false), (8, false)] (by kernel_rfl) (q5 P N2)) (r_cond rfl (r_seq (rB T0_ok (q4 P N2)) r_ret) r_skip))) (rB T0_ok (q3 P N2)))))))) (r_seq (rB T0_ok (q1 P)) r_ret))))
theorem ac (P : PT) (x0 x1 : Value) (H : AHeap) (h : B10 P x0 x1 H) : AC Try.prog T0 15 [x0, x1] H P :=
  r_fn T0_ok (c := code) (n := 26) Try.func15 body (by kernel_rfl) (main P) (En_mk (x0, x1, ()) (by kernel_rfl) ⟨by kernel_rfl, by kernel_rfl, trivial⟩ h)

end F15
-- loop.example/g01329/laws.szInt64SS
namespace F16
noncomputable def ret (P : PT) : EP := retE T0 27 Try.f16 P
abbrev k0 : Sk := [(1,.i .i64)]
noncomputable def o1 := ob Try.f16 [.r,.r,.r,.r,.l]
def B1 (P : PT) (x1 : Int) (H : AHeap) : Prop :=
  P (Value.int .i64 x1) H
theorem q1 (P : PT) : QB Try.prog T0 27 o1 (ret P) k0 (B1 P) := fun _ _ _  => by kernel_rfl
abbrev k1 : Sk := [(0,.v),(1,.i .i64),(5,.i .i64)]
noncomputable def o3 := ob Try.f16 [.r,.r,.r,.l,.r,.l,.l,.r,.r]
def B3 (P : PT) (N2 : NTy k1 Pr) (x0 : Value) (x1 x5 : Int) (H : AHeap) : Prop :=
  N2 x0 x1 (IntKind.i64.wrap (x5 + 1)) H
theorem q3 (P : PT) (N2 : NTy k1 Pr) : QB Try.prog T0 27 o3 (En 27 k1 N2) k1 (B3 P N2) := fun _ _ _ _ _  => by kernel_rfl
abbrev k2 : Sk := []
noncomputable def o4 := ob Try.f16 [.r,.r,.r,.l,.r,.l,.l,.r,.l,.l,.r,.r,.l,.l]
def B4 (P : PT) (N2 : NTy k1 Pr) (H : AHeap) : Prop :=
  P (Value.int .i64 (-1)) H
theorem q4 (P : PT) (N2 : NTy k1 Pr) : QB Try.prog T0 27 o4 (ret P) k2 (B4 P N2) := fun _ _  => by kernel_rfl
noncomputable def o5 := ob Try.f16 [.r,.r,.r,.l,.r,.l,.l,.r,.l,.l,.r,.l]
def B5 (P : PT) (N2 : NTy k1 Pr) (x0 : Value) (x1 x5 : Int) (H : AHeap) : Prop :=
  pif (decide ((x1 : Int) < 0)) (B4 P N2 H) (B3 P N2 x0 x1 x5 H)
theorem q5 (P : PT) (N2 : NTy k1 Pr) : QB Try.prog T0 27 o5 (cnd 25 (En 27 k2 (B4 P N2)) (En 27 k1 (B3 P N2))) k1 (B5 P N2) := fun _ _ _ _ _  => by kernel_rfl
noncomputable def o6 := ob Try.f16 [.r,.r,.r,.l,.r,.l,.l,.r,.l,.l,.l]
def B6 (P : PT) (N2 : NTy k1 Pr) (x0 : Value) (x1 x5 : Int) (H : AHeap) : Prop :=
  idxK x0 x5 1 (fun b1 o2 => ld1 H b1 o2 (fun v3 => AC Try.prog T0 47 [v3, (Value.int .i64 x1)] H (fun v4 H5 => asI .i64 v4 (fun v6 => B5 P N2 x0 v6 x5 H5))))
theorem q6 (P : PT) (N2 : NTy k1 Pr) : QB Try.prog T0 27 o6 (En 27 k1 (B5 P N2)) k1 (B6 P N2) := fun _ _ _ _ _  => by kernel_rfl
noncomputable def o7 := ob Try.f16 [.r,.r,.r,.l,.r,.l,.l,.l,.l]
def B7 (P : PT) (N2 : NTy k1 Pr) (x0 : Value) (x1 x5 : Int) (H : AHeap) : Prop :=
  lenK x0 (fun n1 => pif (decide ((x5 : Int) < (n1 : Int))) (B6 P N2 x0 x1 x5 H) (B1 P x1 H))
theorem q7 (P : PT) (N2 : NTy k1 Pr) : QB Try.prog T0 27 o7 (cnd 15 (En 27 k1 (B6 P N2)) (En 27 k0 (B1 P))) k1 (B7 P N2) := fun _ _ _ _ _  => by kernel_rfl
def L2 (P : PT) (x0 : Value) (x1 x5 : Int) (H : AHeap) : Prop :=
  ∃ (I : NTy k1 Pr) (μ : NTy k1 (AHeap → Nat)), I x0 x1 x5 H ∧ ∀ y0 y1 y5 G, I y0 y1 y5 G → B7 P (fun z0 z1 z5 G' => I z0 z1 z5 G' ∧ μ z0 z1 z5 G' < μ y0 y1 y5 G) y0 y1 y5 G
theorem l2 (P : PT) : LQ k1 (L2 P) (B7 P) := fun ⟨_,_,_,_⟩ _ ⟨I, μ, h0, hI⟩ => ⟨apT _ I, apT _ μ, h0, fun ⟨_,_,_,_⟩ _ h => hI _ _ _ _  h⟩
abbrev k3 : Sk := [(0,.v),(1,.i .i64)]
noncomputable def o8 := ob Try.f16 [.r,.r,.r,.l,.l]
def B8 (P : PT) (x0 : Value) (x1 : Int) (H : AHeap) : Prop :=
  L2 P x0 x1 0 H
theorem q8 (P : PT) : QB Try.prog T0 27 o8 (En 27 k1 (L2 P)) k3 (B8 P) := fun _ _ _ _  => by kernel_rfl
noncomputable def o9 := ob Try.f16 [.r,.r,.l,.r,.l,.l]
def B9 (P : PT) (H : AHeap) : Prop :=
  P (Value.int .i64 (-1)) H
theorem q9 (P : PT) : QB Try.prog T0 27 o9 (ret P) k2 (B9 P) := fun _ _  => by kernel_rfl
noncomputable def o10 := ob Try.f16 [.r,.r,.l,.l]
def B10 (P : PT) (x0 : Value) (x1 : Int) (H : AHeap) : Prop :=
  pif (decide ((x1 : Int) < 0)) (B9 P H) (B8 P x0 x1 H)
theorem q10 (P : PT) : QB Try.prog T0 27 o10 (cnd 11 (En 27 k2 (B9 P)) (En 27 k3 (B8 P))) k3 (B10 P) := fun _ _ _ _  => by kernel_rfl
noncomputable def o11 := ob Try.f16 [.r,.l]
def B11 (P : PT) (x0 : Value) (x1 : Int) (H : AHeap) : Prop :=
  lenK x0 (fun n1 => B10 P x0 (IntKind.i64.wrap (x1 - (n1 : Int))) H)
theorem q11 (P : PT) : QB Try.prog T0 27 o11 (En 27 k3 (B10 P)) k3 (B11 P) := fun _ _ _ _  => by kernel_rfl
noncomputable def o12 := ob Try.f16 [.l]
def B12 (P : PT) (x0 : Value) (x1 : Int) (H : AHeap) : Prop :=
  B11 P x0 x1 H
theorem q12 (P : PT) : QB Try.prog T0 27 o12 (En 27 k3 (B11 P)) k3 (B12 P) := fun _ _ _ _  => by kernel_rfl
noncomputable def code : Code := (.seq (.region 0 ⟨o12⟩ false) (.seq (.region 1 ⟨o11⟩ false) (.seq (.seq (.region 2 ⟨o10⟩ false) (.cond (.tmp 11) (.seq (.region 3 ⟨o9⟩ false) .ret) .skip)) (.seq (.seq (.region 4 ⟨o8⟩ false) (.block 0 (.loop (.seq (.seq (.region 5 ⟨o7⟩ false) (.cond (.tmp 15) .skip (.exit 0))) (.seq (.block 1 (.seq (.region 7 ⟨o6⟩ false) (.seq (.region 8 ⟨o5⟩ false) (.cond (.tmp 25) (.seq (.region 9 ⟨o4⟩ false) .ret) .skip)))) (.region 6 ⟨o3⟩ false)))))) (.seq (.region 10 ⟨o1⟩ false) .ret)))))
theorem body : Try.f16.body = some code := by kernel_rfl
theorem main (P : PT) : ∀ env H, (En 27 k3 (B12 P)) env H → AW Try.prog T0 code env H (mkQ (ret P) (fun _ _ _ => False) (ret P)) :=
  (r_seq (rB T0_ok (q12 P)) (r_seq (rB T0_ok (q11 P)) (r_seq (r_seq (rB T0_ok (q10 P)) (r_cond rfl (r_seq (rB T0_ok (q9 P)) r_ret) r_skip)) (r_seq (r_seq (rB T0_ok (q8 P)) (r_block (rL (l2 P) (fun N2 => (r_seq (r_seq (rB T0_ok (q7 P N2)) (r_cond rfl r_skip (r_exit (fun _ _ h => h)))) (r_seq (r_block (r_seq (rB T0_ok (q6 P N2)) (r_seq (rB T0_ok (q5 P N2)) (r_cond rfl (r_seq (rB T0_ok (q4 P N2)) r_ret) r_skip)))) (rB T0_ok (q3 P N2)))))))) (r_seq (rB T0_ok (q1 P)) r_ret)))))
theorem ac (P : PT) (x0 : Value) (x1 : Int) (H : AHeap) (h : B12 P x0 x1 H) : AC Try.prog T0 16 [x0, (Value.int .i64 x1)] H P :=
  r_fn T0_ok (c := code) (n := 27) Try.func16 body (by kernel_rfl) (main P) (En_mk (x0, x1, ()) (by kernel_rfl) ⟨by kernel_rfl, by kernel_rfl, trivial⟩ h)

end F16
-- loop.example/g01329/spec.IsOrientedBy
namespace F17
noncomputable def ret (P : PT) : EP := retE T0 112 Try.f17 P
abbrev k0 : Sk := []
noncomputable def o1 := ob Try.f17 [.r,.r,.r,.r,.r,.r,.r,.r,.l]
def B1 (P : PT) (H : AHeap) : Prop :=
  P (Value.tuple ⟨[(Value.bool true), (Value.int .i64 0)]⟩) H
theorem q1 (P : PT) : QB Try.prog T0 112 o1 (ret P) k0 (B1 P) := fun _ _  => by kernel_rfl
abbrev k1 : Sk := [(10,.v),(14,.i .i64)]
noncomputable def o3 := ob Try.f17 [.r,.r,.r,.r,.r,.r,.r,.l,.r,.l,.l,.r,.r]
def B3 (P : PT) (N2 : NTy k1 Pr) (x10 : Value) (x14 : Int) (H : AHeap) : Prop :=
  N2 x10 (IntKind.i64.wrap (x14 + 1)) H
theorem q3 (P : PT) (N2 : NTy k1 Pr) : QB Try.prog T0 112 o3 (En 112 k1 N2) k1 (B3 P N2) := fun _ _ _ _  => by kernel_rfl
noncomputable def o4 := ob Try.f17 [.r,.r,.r,.r,.r,.r,.r,.l,.r,.l,.l,.r,.l,.l,.r,.l,.l]
def B4 (P : PT) (N2 : NTy k1 Pr) (H : AHeap) : Prop :=
  P (Value.tuple ⟨[(Value.bool false), (Value.int .i64 0)]⟩) H
theorem q4 (P : PT) (N2 : NTy k1 Pr) : QB Try.prog T0 112 o4 (ret P) k0 (B4 P N2) := fun _ _  => by kernel_rfl
noncomputable def o5 := ob Try.f17 [.r,.r,.r,.r,.r,.r,.r,.l,.r,.l,.l,.r,.l,.l,.l]
def B5 (P : PT) (N2 : NTy k1 Pr) (x10 : Value) (x14 : Int) (H : AHeap) : Prop :=
  idxK x10 x14 1 (fun b1 o2 => ldI .i64 H b1 o2 (fun v3 => pif ((v3 : Int) != 0) (B4 P N2 H) (B3 P N2 x10 x14 H)))
theorem q5 (P : PT) (N2 : NTy k1 Pr) : QB Try.prog T0 112 o5 (cnd 111 (En 112 k0 (B4 P N2)) (En 112 k1 (B3 P N2))) k1 (B5 P N2) := fun _ _ _ _  => by kernel_rfl
noncomputable def o6 := ob Try.f17 [.r,.r,.r,.r,.r,.r,.r,.l,.r,.l,.l,.l,.l]
def B6 (P : PT) (N2 : NTy k1 Pr) (x10 : Value) (x14 : Int) (H : AHeap) : Prop :=
  lenK x10 (fun n1 => pif (decide ((x14 : Int) < (n1 : Int))) (B5 P N2 x10 x14 H) (B1 P H))
theorem q6 (P : PT) (N2 : NTy k1 Pr) : QB Try.prog T0 112 o6 (cnd 104 (En 112 k1 (B5 P N2)) (En 112 k0 (B1 P))) k1 (B6 P N2) := fun _ _ _ _  => by kernel_rfl
def L2 (P : PT) (x10 : Value) (x14 : Int) (H : AHeap) : Prop :=
  ∃ (I : NTy k1 Pr) (μ : NTy k1 (AHeap → Nat)), I x10 x14 H ∧ ∀ y10 y14 G, I y10 y14 G → B6 P (fun z10 z14 G' => I z10 z14 G' ∧ μ z10 z14 G' < μ y10 y14 G) y10 y14 G
theorem l2 (P : PT) : LQ k1 (L2 P) (B6 P) := fun ⟨_,_,_⟩ _ ⟨I, μ, h0, hI⟩ => ⟨apT _ I, apT _ μ, h0, fun ⟨_,_,_⟩ _ h => hI _ _ _  h⟩
abbrev k2 : Sk := [(10,.v)]
noncomputable def o7 := ob Try.f17 [.r,.r,.r,.r,.r,.r,.r,.l,.l]
def B7 (P : PT) (x10 : Value) (H : AHeap) : Prop :=
  L2 P x10 0 H
theorem q7 (P : PT) : QB Try.prog T0 112 o7 (En 112 k1 (L2 P)) k2 (B7 P) := fun _ _ _  => by kernel_rfl
abbrev k3 : Sk := [(1,.v),(2,.v),(3,.x),(10,.v),(11,.i .i64)]
noncomputable def o9 := ob Try.f17 [.r,.r,.r,.r,.r,.r,.l,.r,.l,.l,.r,.r]
def B9 (P : PT) (N8 : NTy k3 Pr) (x1 x2 : Value) (x3 : Nat) (x10 : Value) (x11 : Int) (H : AHeap) : Prop :=
  N8 x1 x2 x3 x10 (IntKind.i64.wrap (x11 + 1)) H
theorem q9 (P : PT) (N8 : NTy k3 Pr) : QB Try.prog T0 112 o9 (En 112 k3 N8) k3 (B9 P N8) := fun _ _ _ _ _ _ _  => by kernel_rfl
abbrev k4 : Sk := [(1,.v),(2,.v),(3,.x),(10,.v),(11,.i .i64),(12,.v),(13,.i .i64)]
noncomputable def o11 := ob Try.f17 [.r,.r,.r,.r,.r,.r,.l,.r,.l,.l,.r,.l,.l,.r,.r,.l,.l,.r,.r]
def B11 (P : PT) (N8 : NTy k3 Pr) (N10 : NTy k4 Pr) (x1 x2 : Value) (x3 : Nat) (x10 : Value) (x11 : Int) (x12 : Value) (x13 : Int) (H : AHeap) : Prop :=
  N10 x1 x2 x3 x10 x11 x12 (IntKind.i64.wrap (x13 + 1)) H
theorem q11 (P : PT) (N8 : NTy k3 Pr) (N10 : NTy k4 Pr) : QB Try.prog T0 112 o11 (En 112 k4 N10) k4 (B11 P N8 N10) := fun _ _ _ _ _ _ _ _ _  => by kernel_rfl
noncomputable def o12 := ob Try.f17 [.r,.r,.r,.r,.r,.r,.l,.r,.l,.l,.r,.l,.l,.r,.r,.l,.l,.r,.l,.l,.r,.l]
def B12 (P : PT) (N8 : NTy k3 Pr) (N10 : NTy k4 Pr) (x1 x2 : Value) (x3 : Nat) (x10 : Value) (x11 : Int) (x12 : Value) (x13 : Int) (H : AHeap) : Prop :=
  idxK x1 x11 1 (fun b1 o2 => ld1 H b1 o2 (fun v3 => idxK v3 x13 1 (fun b4 o5 => ldI .i64 H b4 o5 (fun v6 => idxK x10 v6 1 (fun b7 o8 => ldI .i64 H b7 o8 (fun v9 => idxK x10 v6 1 (fun b10 o11 => stK H b10 o11 [(Value.int .i64 (IntKind.i64.wrap (v9 + 1)))] (fun H12 => B11 P N8 N10 x1 x2 x3 x10 x11 x12 x13 H12))))))))
theorem q12 (P : PT) (N8 : NTy k3 Pr) (N10 : NTy k4 Pr) : QB Try.prog T0 112 o12 (En 112 k4 (B11 P N8 N10)) k4 (B12 P N8 N10) := fun _ _ _ _ _ _ _ _ _  => by kernel_rfl
noncomputable def o13 := ob Try.f17 [.r,.r,.r,.r,.r,.r,.l,.r,.l,.l,.r,.l,.l,.r,.r,.l,.l,.r,.l,.l,.r,.r]
def B13 (P : PT) (N8 : NTy k3 Pr) (N10 : NTy k4 Pr) (x1 x2 : Value) (x3 : Nat) (x10 : Value) (x11 : Int) (x12 : Value) (x13 : Int) (H : AHeap) : Prop :=
  idxK x1 x11 1 (fun b1 o2 => ld1 H b1 o2 (fun v3 => idxK v3 x13 1 (fun b4 o5 => ldI .i64 H b4 o5 (fun v6 => idxK x10 v6 1 (fun b7 o8 => ldI .i64 H b7 o8 (fun v9 => idxK x10 v6 1 (fun b10 o11 => stK H b10 o11 [(Value.int .i64 (IntKind.i64.wrap (v9 - 1)))] (fun H12 => B11 P N8 N10 x1 x2 x3 x10 x11 x12 x13 H12))))))))
theorem q13 (P : PT) (N8 : NTy k3 Pr) (N10 : NTy k4 Pr) : QB Try.prog T0 112 o13 (En 112 k4 (B11 P N8 N10)) k4 (B13 P N8 N10) := fun _ _ _ _ _ _ _ _ _  => by kernel_rfl
noncomputable def o14 := ob Try.f17 [.r,.r,.r,.r,.r,.r,.l,.r,.l,.l,.r,.l,.l,.r,.r,.l,.l,.r,.l,.l,.l]
def B14 (P : PT) (N8 : NTy k3 Pr) (N10 : NTy k4 Pr) (x1 x2 : Value) (x3 : Nat) (x10 : Value) (x11 : Int) (x12 : Value) (x13 : Int) (H : AHeap) : Prop :=
  idxK x12 x13 1 (fun b1 o2 => ld1 H b1 o2 (fun v4 => asB v4 (fun v3 => idxK x2 x11 1 (fun b5 o6 => ldI .i64 H b5 o6 (fun v7 => pif (v3 == ((v7 : Int) == 0)) (B12 P N8 N10 x1 x2 x3 x10 x11 x12 x13 H) (B13 P N8 N10 x1 x2 x3 x10 x11 x12 x13 H))))))
theorem q14 (P : PT) (N8 : NTy k3 Pr) (N10 : NTy k4 Pr) : QD Try.prog T0 112 o14 [(0, false), (1, false), (2, false), (3, false), (4, false), (5, false), (6, false), (7, false), (8, false), (9, false)] (cnd 76 (En 112 k4 (B12 P N8 N10)) (En 112 k4 (B13 P N8 N10))) k4 (B14 P N8 N10) := fun _ _ _ _ _ _ _ _ _  => by kernel_rfl
noncomputable def o15 := ob Try.f17 [.r,.r,.r,.r,.r,.r,.l,.r,.l,.l,.r,.l,.l,.r,.r,.l,.l,.l,.l]
def B15 (P : PT) (N8 : NTy k3 Pr) (N10 : NTy k4 Pr) (x1 x2 : Value) (x3 : Nat) (x10 : Value) (x11 : Int) (x12 : Value) (x13 : Int) (H : AHeap) : Prop :=
  idxK x1 x11 1 (fun b1 o2 => ld1 H b1 o2 (fun v3 => lenK v3 (fun n4 => pif (decide ((x13 : Int) < (n4 : Int))) (B14 P N8 N10 x1 x2 x3 x10 x11 x12 x13 H) (B9 P N8 x1 x2 x3 x10 x11 H))))
theorem q15 (P : PT) (N8 : NTy k3 Pr) (N10 : NTy k4 Pr) : QB Try.prog T0 112 o15 (cnd 64 (En 112 k4 (B14 P N8 N10)) (En 112 k3 (B9 P N8))) k4 (B15 P N8 N10) := fun _ _ _ _ _ _ _ _ _  => by kernel_rfl
def L10 (P : PT) (N8 : NTy k3 Pr) (x1 x2 : Value) (x3 : Nat) (x10 : Value) (x11 : Int) (x12 : Value) (x13 : Int) (H : AHeap) : Prop :=
  ∃ (I : NTy k4 Pr) (μ : NTy k4 (AHeap → Nat)), I x1 x2 x3 x10 x11 x12 x13 H ∧ ∀ y1 y2 y3 y10 y11 y12 y13 G, I y1 y2 y3 y10 y11 y12 y13 G → B15 P N8 (fun z1 z2 z3 z10 z11 z12 z13 G' => I z1 z2 z3 z10 z11 z12 z13 G' ∧ μ z1 z2 z3 z10 z11 z12 z13 G' < μ y1 y2 y3 y10 y11 y12 y13 G) y1 y2 y3 y10 y11 y12 y13 G
theorem l10 (P : PT) (N8 : NTy k3 Pr) : LQ k4 (L10 P N8) (B15 P N8) := fun ⟨_,_,_,_,_,_,_,_⟩ _ ⟨I, μ, h0, hI⟩ => ⟨apT _ I, apT _ μ, h0, fun ⟨_,_,_,_,_,_,_,_⟩ _ h => hI _ _ _ _ _ _ _ _  h⟩
abbrev k5 : Sk := [(1,.v),(2,.v),(3,.x),(10,.v),(11,.i .i64),(12,.v)]
noncomputable def o16 := ob Try.f17 [.r,.r,.r,.r,.r,.r,.l,.r,.l,.l,.r,.l,.l,.r,.l]
def B16 (P : PT) (N8 : NTy k3 Pr) (x1 x2 : Value) (x3 : Nat) (x10 : Value) (x11 : Int) (x12 : Value) (H : AHeap) : Prop :=
  L10 P N8 x1 x2 x3 x10 x11 x12 0 H
theorem q16 (P : PT) (N8 : NTy k3 Pr) : QB Try.prog T0 112 o16 (En 112 k4 (L10 P N8)) k5 (B16 P N8) := fun _ _ _ _ _ _ _ _  => by kernel_rfl
noncomputable def o17 := ob Try.f17 [.r,.r,.r,.r,.r,.r,.l,.r,.l,.l,.r,.l,.l,.l]
def B17 (P : PT) (N8 : NTy k3 Pr) (x1 x2 : Value) (x3 : Nat) (x10 : Value) (x11 : Int) (H : AHeap) : Prop :=
  ldI .i64 H x3 0 (fun v1 => ld1 H x3 1 (fun v2 => idxK x1 x11 1 (fun b3 o4 => ld1 H b3 o4 (fun v5 => AC Try.prog T0 51 [(Value.agg ⟨[(Value.int .i64 v1), v2]⟩), v5] H (fun v6 H7 => B16 P N8 x1 x2 x3 x10 x11 v6 H7)))))
theorem q17 (P : PT) (N8 : NTy k3 Pr) : QD Try.prog T0 112 o17 [(0, false), (1, false), (2, false), (3, false), (4, false), (5, false), (6, false)] (En 112 k5 (B16 P N8)) k3 (B17 P N8) := fun _ _ _ _ _ _ _  => by kernel_rfl
noncomputable def o18 := ob Try.f17 [.r,.r,.r,.r,.r,.r,.l,.r,.l,.l,.l,.l]
def B18 (P : PT) (N8 : NTy k3 Pr) (x1 x2 : Value) (x3 : Nat) (x10 : Value) (x11 : Int) (H : AHeap) : Prop :=
  lenK x1 (fun n1 => pif (decide ((x11 : Int) < (n1 : Int))) (B17 P N8 x1 x2 x3 x10 x11 H) (B7 P x10 H))
theorem q18 (P : PT) (N8 : NTy k3 Pr) : QB Try.prog T0 112 o18 (cnd 49 (En 112 k3 (B17 P N8)) (En 112 k2 (B7 P))) k3 (B18 P N8) := fun _ _ _ _ _ _ _  => by kernel_rfl
def L8 (P : PT) (x1 x2 : Value) (x3 : Nat) (x10 : Value) (x11 : Int) (H : AHeap) : Prop :=
  ∃ (I : NTy k3 Pr) (μ : NTy k3 (AHeap → Nat)), I x1 x2 x3 x10 x11 H ∧ ∀ y1 y2 y3 y10 y11 G, I y1 y2 y3 y10 y11 G → B18 P (fun z1 z2 z3 z10 z11 G' => I z1 z2 z3 z10 z11 G' ∧ μ z1 z2 z3 z10 z11 G' < μ y1 y2 y3 y10 y11 G) y1 y2 y3 y10 y11 G
theorem l8 (P : PT) : LQ k3 (L8 P) (B18 P) := fun ⟨_,_,_,_,_,_⟩ _ ⟨I, μ, h0, hI⟩ => ⟨apT _ I, apT _ μ, h0, fun ⟨_,_,_,_,_,_⟩ _ h => hI _ _ _ _ _ _  h⟩
abbrev k6 : Sk := [(1,.v),(2,.v),(3,.x),(10,.v)]
noncomputable def o19 := ob Try.f17 [.r,.r,.r,.r,.r,.r,.l,.l]
def B19 (P : PT) (x1 x2 : Value) (x3 : Nat) (x10 : Value) (H : AHeap) : Prop :=
  L8 P x1 x2 x3 x10 0 H
theorem q19 (P : PT) : QB Try.prog T0 112 o19 (En 112 k3 (L8 P)) k6 (B19 P) := fun _ _ _ _ _ _  => by kernel_rfl
abbrev k7 : Sk := [(1,.v),(2,.v),(3,.x)]
noncomputable def o20 := ob Try.f17 [.r,.r,.r,.r,.r,.l]
def B20 (P : PT) (x1 x2 : Value) (x3 : Nat) (H : AHeap) : Prop :=
  ld1 H x3 1 (fun v1 => lenK v1 (fun n2 => mkR H 8 2 [(Value.int .i64 0)] (n2 : Int) (n2 : Int) (fun v4 H3 => B19 P x1 x2 x3 v4 H3)))
theorem q20 (P : PT) : QB Try.prog T0 112 o20 (En 112 k6 (B19 P)) k7 (B20 P) := fun _ _ _ _ _  => by kernel_rfl
noncomputable def o21 := ob Try.f17 [.r,.r,.r,.r,.l,.r,.l,.l]
def B21 (P : PT) (H : AHeap) : Prop :=
  P (Value.tuple ⟨[(Value.bool false), (Value.int .i64 5)]⟩) H
theorem q21 (P : PT) : QB Try.prog T0 112 o21 (ret P) k0 (B21 P) := fun _ _  => by kernel_rfl
noncomputable def o22 := ob Try.f17 [.r,.r,.r,.r,.l,.l]
def B22 (P : PT) (x1 x2 : Value) (x3 : Nat) (H : AHeap) : Prop :=
  ldI .i64 H x3 0 (fun v1 => ld1 H x3 1 (fun v2 => AC Try.prog T0 50 [(Value.agg ⟨[(Value.int .i64 v1), v2]⟩), x1] H (fun v3 H4 => asB v3 (fun v5 => pif (!v5) (B21 P H4) (B20 P x1 x2 x3 H4)))))
theorem q22 (P : PT) : QB Try.prog T0 112 o22 (cnd 41 (En 112 k0 (B21 P)) (En 112 k7 (B20 P))) k7 (B22 P) := fun _ _ _ _ _  => by kernel_rfl
abbrev k8 : Sk := [(1,.v),(2,.v),(3,.x),(9,.i .i64)]
noncomputable def o24 := ob Try.f17 [.r,.r,.r,.l,.r,.l,.l,.r,.r]
def B24 (P : PT) (N23 : NTy k8 Pr) (x1 x2 : Value) (x3 : Nat) (x9 : Int) (H : AHeap) : Prop :=
  N23 x1 x2 x3 (IntKind.i64.wrap (x9 + 1)) H
theorem q24 (P : PT) (N23 : NTy k8 Pr) : QB Try.prog T0 112 o24 (En 112 k8 N23) k8 (B24 P N23) := fun _ _ _ _ _ _  => by kernel_rfl
noncomputable def o25 := ob Try.f17 [.r,.r,.r,.l,.r,.l,.l,.r,.l,.l,.r,.l,.l]
def B25 (P : PT) (N23 : NTy k8 Pr) (H : AHeap) : Prop :=
  P (Value.tuple ⟨[(Value.bool false), (Value.int .i64 2)]⟩) H
theorem q25 (P : PT) (N23 : NTy k8 Pr) : QB Try.prog T0 112 o25 (ret P) k0 (B25 P N23) := fun _ _  => by kernel_rfl
noncomputable def o26 := ob Try.f17 [.r,.r,.r,.l,.r,.l,.l,.r,.l,.l,.l]
def B26 (P : PT) (N23 : NTy k8 Pr) (x1 x2 : Value) (x3 : Nat) (x9 : Int) (H : AHeap) : Prop :=
  idxK x2 x9 1 (fun b1 o2 => ldI .i64 H b1 o2 (fun v3 => AC Try.prog T0 49 [(Value.int .i64 v3), (Value.int .i64 0), (Value.int .i64 1)] H (fun v4 H5 => asB v4 (fun v6 => pif (!v6) (B25 P N23 H5) (B24 P N23 x1 x2 x3 x9 H5)))))
theorem q26 (P : PT) (N23 : NTy k8 Pr) : QB Try.prog T0 112 o26 (cnd 37 (En 112 k0 (B25 P N23)) (En 112 k8 (B24 P N23))) k8 (B26 P N23) := fun _ _ _ _ _ _  => by kernel_rfl
noncomputable def o27 := ob Try.f17 [.r,.r,.r,.l,.r,.l,.l,.l,.l]
def B27 (P : PT) (N23 : NTy k8 Pr) (x1 x2 : Value) (x3 : Nat) (x9 : Int) (H : AHeap) : Prop :=
  lenK x2 (fun n1 => pif (decide ((x9 : Int) < (n1 : Int))) (B26 P N23 x1 x2 x3 x9 H) (B22 P x1 x2 x3 H))
theorem q27 (P : PT) (N23 : NTy k8 Pr) : QB Try.prog T0 112 o27 (cnd 29 (En 112 k8 (B26 P N23)) (En 112 k7 (B22 P))) k8 (B27 P N23) := fun _ _ _ _ _ _  => by kernel_rfl
def L23 (P : PT) (x1 x2 : Value) (x3 : Nat) (x9 : Int) (H : AHeap) : Prop :=
  ∃ (I : NTy k8 Pr) (μ : NTy k8 (AHeap → Nat)), I x1 x2 x3 x9 H ∧ ∀ y1 y2 y3 y9 G, I y1 y2 y3 y9 G → B27 P (fun z1 z2 z3 z9 G' => I z1 z2 z3 z9 G' ∧ μ z1 z2 z3 z9 G' < μ y1 y2 y3 y9 G) y1 y2 y3 y9 G
theorem l23 (P : PT) : LQ k8 (L23 P) (B27 P) := fun ⟨_,_,_,_,_⟩ _ ⟨I, μ, h0, hI⟩ => ⟨apT _ I, apT _ μ, h0, fun ⟨_,_,_,_,_⟩ _ h => hI _ _ _ _ _  h⟩
noncomputable def o28 := ob Try.f17 [.r,.r,.r,.l,.l]
def B28 (P : PT) (x1 x2 : Value) (x3 : Nat) (H : AHeap) : Prop :=
  L23 P x1 x2 x3 0 H
theorem q28 (P : PT) : QB Try.prog T0 112 o28 (En 112 k8 (L23 P)) k7 (B28 P) := fun _ _ _ _ _  => by kernel_rfl
noncomputable def o29 := ob Try.f17 [.r,.r,.l,.r,.l,.l]
def B29 (P : PT) (H : AHeap) : Prop :=
  P (Value.tuple ⟨[(Value.bool false), (Value.int .i64 2)]⟩) H
theorem q29 (P : PT) : QB Try.prog T0 112 o29 (ret P) k0 (B29 P) := fun _ _  => by kernel_rfl
noncomputable def o30 := ob Try.f17 [.r,.r,.l,.l]
def B30 (P : PT) (x1 x2 : Value) (x3 : Nat) (H : AHeap) : Prop :=
  lenK x2 (fun n1 => lenK x1 (fun n2 => pif (((n1 : Int) : Int) != (n2 : Int)) (B29 P H) (B28 P x1 x2 x3 H)))
theorem q30 (P : PT) : QB Try.prog T0 112 o30 (cnd 25 (En 112 k0 (B29 P)) (En 112 k7 (B28 P))) k7 (B30 P) := fun _ _ _ _ _  => by kernel_rfl
abbrev k9 : Sk := [(8,.i .i64)]
noncomputable def o31 := ob Try.f17 [.r,.l,.r,.r,.l,.l]
def B31 (P : PT) (x8 : Int) (H : AHeap) : Prop :=
  P (Value.tuple ⟨[(Value.bool false), (Value.int .i64 x8)]⟩) H
theorem q31 (P : PT) : QB Try.prog T0 112 o31 (ret P) k9 (B31 P) := fun _ _ _  => by kernel_rfl
abbrev k10 : Sk := [(1,.v),(2,.v),(3,.x),(8,.i .i64)]
noncomputable def o32 := ob Try.f17 [.r,.l,.r,.l]
def B32 (P : PT) (x1 x2 : Value) (x3 : Nat) (x8 : Int) (H : AHeap) : Prop :=
  pif ((x8 : Int) != 0) (B31 P x8 H) (B30 P x1 x2 x3 H)
theorem q32 (P : PT) : QB Try.prog T0 112 o32 (cnd 19 (En 112 k9 (B31 P)) (En 112 k7 (B30 P))) k10 (B32 P) := fun _ _ _ _ _ _  => by kernel_rfl
noncomputable def o33 := ob Try.f17 [.r,.l,.l]
def B33 (P : PT) (x1 x2 : Value) (x3 : Nat) (H : AHeap) : Prop :=
  ldI .i64 H x3 0 (fun v1 => ld1 H x3 1 (fun v2 => AC Try.prog T0 48 [(Value.agg ⟨[(Value.int .i64 v1), v2]⟩), x1] H (fun v3 H4 => asI .i64 v3 (fun v5 => B32 P x1 x2 x3 v5 H4))))
theorem q33 (P : PT) : QB Try.prog T0 112 o33 (En 112 k10 (B32 P)) k7 (B33 P) := fun _ _ _ _ _  => by kernel_rfl
abbrev k11 : Sk := [(0,.g [.i,.v]),(1,.v),(2,.v)]
noncomputable def o34 := ob Try.f17 [.l]
def B34 (P : PT) (x0a : Int) (x0b x1 x2 : Value) (H : AHeap) : Prop :=
  newK H [(Value.int .i64 x0a), x0b] 31 (fun b1 H2 => B33 P x1 x2 b1 H2)
theorem q34 (P : PT) : QB Try.prog T0 112 o34 (En 112 k7 (B33 P)) k11 (B34 P) := fun _ _ _ _ _ _  => by kernel_rfl
noncomputable def code : Code := (.seq (.region 0 ⟨o34⟩ false) (.seq (.seq (.region 1 ⟨o33⟩ false) (.seq (.region 2 ⟨o32⟩ false) (.cond (.tmp 19) (.seq (.region 3 ⟨o31⟩ false) .ret) .skip))) (.seq (.seq (.region 4 ⟨o30⟩ false) (.cond (.tmp 25) (.seq (.region 5 ⟨o29⟩ false) .ret) .skip)) (.seq (.seq (.region 6 ⟨o28⟩ false) (.block 0 (.loop (.seq (.seq (.region 7 ⟨o27⟩ false) (.cond (.tmp 29) .skip (.exit 0))) (.seq (.block 1 (.seq (.region 9 ⟨o26⟩ false) (.cond (.tmp 37) (.seq (.region 10 ⟨o25⟩ false) .ret) .skip))) (.region 8 ⟨o24⟩ false)))))) (.seq (.seq (.region 11 ⟨o22⟩ false) (.cond (.tmp 41) (.seq (.region 12 ⟨o21⟩ false) .ret) .skip)) (.seq (.region 13 ⟨o20⟩ false) (.seq (.seq (.region 14 ⟨o19⟩ false) (.block 2 (.loop (.seq (.seq (.region 15 ⟨o18⟩ false) (.cond (.tmp 49) .skip (.exit 2))) (.seq (.block 3 (.seq (.region 17 ⟨o17⟩ true) (.seq (.region 18 ⟨o16⟩ false) (.block 4 (.loop (.seq (.seq (.region 19 ⟨o15⟩ false) (.cond (.tmp 64) .skip (.exit 4))) (.seq (.block 5 (.seq (.region 21 ⟨o14⟩ true) (.cond (.tmp 76) (.region 22 ⟨o12⟩ false) (.region 23 ⟨o13⟩ false)))) (.region 20 ⟨o11⟩ false)))))))) (.region 16 ⟨o9⟩ false)))))) (.seq (.seq (.region 24 ⟨o7⟩ false) (.block 6 (.loop (.seq (.seq (.region 25 ⟨o6⟩ false) (.cond (.tmp 104) .skip (.exit 6))) (.seq (.block 7 (.seq (.region 27 ⟨o5⟩ false) (.cond (.tmp 111) (.seq (.region 28 ⟨o4⟩ false) .ret) .skip))) (.region 26 ⟨o3⟩ false)))))) (.seq (.region 29 ⟨o1⟩ false) .ret)))))))))
theorem body : Try.f17.body = some code := by kernel_rfl
theorem main (P : PT) : ∀ env H, (En 112 k11 (B34 P)) env H → AW Try.prog T0 code env H (mkQ (ret P) (fun _ _ _ => False) (ret P)) :=
  (r_seq (rB T0_ok (q34 P)) (r_seq (r_seq (rB T0_ok (q33 P)) (r_seq (rB T0_ok (q32 P)) (r_cond rfl (r_seq (rB T0_ok (q31 P)) r_ret) r_skip))) (r_seq (r_seq (rB T0_ok (q30 P)) (r_cond rfl (r_seq (rB T0_ok (q29 P)) r_ret) r_skip)) (r_seq (r_seq (rB T0_ok (q28 P)) (r_block (rL (l23 P) (fun N23 => (r_seq (r_seq (rB T0_ok (q27 P N23)) (r_cond rfl r_skip (r_exit (fun _ _ h => h)))) (r_seq (r_block (r_seq (rB T0_ok (q26 P N23)) (r_cond rfl (r_seq (rB T0_ok (q25 P N23)) r_ret) r_skip))) (rB T0_ok (q24 P N23)))))))) (r_seq (r_seq (rB T0_ok (q22 P)) (r_cond rfl (r_seq (rB T0_ok (q21 P)) r_ret) r_skip)) (r_seq (rB T0_ok (q20 P)) (r_seq (r_seq (rB T0_ok (q19 P)) (r_block (rL (l8 P) (fun N8 => (r_seq (r_seq (rB T0_ok (q18 P N8)) (r_cond rfl r_skip (r_exit (fun _ _ h => h)))) (r_seq (r_block (r_seq (rD T0_ok mixed [(0, false), (1, false), (2, false), (3, false), (4, false), (5, false), (6, false)] (by kernel_rfl) (q17 P N8)) (r_seq (rB T0_ok (q16 P N8)) (r_block (rL (l10 P N8) (fun N10 => (r_seq (r_seq (rB T0_ok (q15 P N8 N10)) (r_cond rfl r_skip (r_exit (fun _ _ h => h)))) (r_seq (r_block (r_seq (rD T0_ok mixed [(0, false), (1, false), (2, false), (3, false), (4, false), (5, false), (6, false), (7, false), (8, false), (9, false)] (by kernel_rfl) (q14 P N8 N10)) (r_cond rfl (rB T0_ok (q12 P N8 N10)) (rB T0_ok (q13 P N8 N10))))) (rB T0_ok (q11 P N8 N10)))))))))) (rB T0_ok (q9 P N8)))))))) (r_seq (r_seq (rB T0_ok (q7 P)) (r_block (rL (l2 P) (fun N2 => (r_seq (r_seq (rB T0_ok (q6 P N2)) (r_cond rfl r_skip (r_exit (fun _ _ h => h)))) (r_seq (r_block (r_seq (rB T0_ok (q5 P N2)) (r_cond rfl (r_seq (rB T0_ok (q4 P N2)) r_ret) r_skip))) (rB T0_ok (q3 P N2)))))))) (r_seq (rB T0_ok (q1 P)) r_ret)))))))))
theorem ac (P : PT) (x0a : Int) (x0b x1 x2 : Value) (H : AHeap) (h : B34 P x0a x0b x1 x2 H) : AC Try.prog T0 17 [(Value.agg ⟨[(Value.int .i64 x0a), x0b]⟩), x1, x2] H P :=
  r_fn T0_ok (c := code) (n := 112) Try.func17 body (by kernel_rfl) (main P) (En_mk (x0a, x0b, x1, x2, ()) (by kernel_rfl) ⟨by kernel_rfl, by kernel_rfl, by kernel_rfl, trivial⟩ h)

end F17
-- loop.example/g01329/laws.toInt64SS
namespace F18
noncomputable def ret (P : PT) : EP := retE T0 23 Try.f18 P
abbrev k0 : Sk := [(3,.v)]
noncomputable def o1 := ob Try.f18 [.r,.r,.r,.l]
def B1 (P : PT) (x3 : Value) (H : AHeap) : Prop :=
  P x3 H
theorem q1 (P : PT) : QB Try.prog T0 23 o1 (ret P) k0 (B1 P) := fun _ _ _  => by kernel_rfl
abbrev k1 : Sk := [(0,.v),(3,.v),(4,.i .i64)]
noncomputable def o3 := ob Try.f18 [.r,.r,.l,.r,.l,.l,.r,.r]
def B3 (P : PT) (N2 : NTy k1 Pr) (x0 x3 : Value) (x4 : Int) (H : AHeap) : Prop :=
  N2 x0 x3 (IntKind.i64.wrap (x4 + 1)) H
theorem q3 (P : PT) (N2 : NTy k1 Pr) : QB Try.prog T0 23 o3 (En 23 k1 N2) k1 (B3 P N2) := fun _ _ _ _ _  => by kernel_rfl
noncomputable def o4 := ob Try.f18 [.r,.r,.l,.r,.l,.l,.r,.l,.l]
def B4 (P : PT) (N2 : NTy k1 Pr) (x0 x3 : Value) (x4 : Int) (H : AHeap) : Prop :=
  idxK x0 x4 1 (fun b1 o2 => ld1 H b1 o2 (fun v3 => AC Try.prog T0 12 [v3] H (fun v4 H5 => idxK x3 x4 1 (fun b7 o8 => pif (Value.oneCell' v4) (stK H5 b7 o8 [v4] (fun H9 => B3 P N2 x0 x3 x4 H9)) False))))
theorem q4 (P : PT) (N2 : NTy k1 Pr) : QB Try.prog T0 23 o4 (En 23 k1 (B3 P N2)) k1 (B4 P N2) := fun _ _ _ _ _  => by kernel_rfl
noncomputable def o5 := ob Try.f18 [.r,.r,.l,.r,.l,.l,.l,.l]
def B5 (P : PT) (N2 : NTy k1 Pr) (x0 x3 : Value) (x4 : Int) (H : AHeap) : Prop :=
  lenK x0 (fun n1 => pif (decide ((x4 : Int) < (n1 : Int))) (B4 P N2 x0 x3 x4 H) (B1 P x3 H))
theorem q5 (P : PT) (N2 : NTy k1 Pr) : QB Try.prog T0 23 o5 (cnd 11 (En 23 k1 (B4 P N2)) (En 23 k0 (B1 P))) k1 (B5 P N2) := fun _ _ _ _ _  => by kernel_rfl
def L2 (P : PT) (x0 x3 : Value) (x4 : Int) (H : AHeap) : Prop :=
  ∃ (I : NTy k1 Pr) (μ : NTy k1 (AHeap → Nat)), I x0 x3 x4 H ∧ ∀ y0 y3 y4 G, I y0 y3 y4 G → B5 P (fun z0 z3 z4 G' => I z0 z3 z4 G' ∧ μ z0 z3 z4 G' < μ y0 y3 y4 G) y0 y3 y4 G
theorem l2 (P : PT) : LQ k1 (L2 P) (B5 P) := fun ⟨_,_,_,_⟩ _ ⟨I, μ, h0, hI⟩ => ⟨apT _ I, apT _ μ, h0, fun ⟨_,_,_,_⟩ _ h => hI _ _ _ _  h⟩
abbrev k2 : Sk := [(0,.v),(3,.v)]
noncomputable def o6 := ob Try.f18 [.r,.r,.l,.l]
def B6 (P : PT) (x0 x3 : Value) (H : AHeap) : Prop :=
  L2 P x0 x3 0 H
theorem q6 (P : PT) : QB Try.prog T0 23 o6 (En 23 k1 (L2 P)) k2 (B6 P) := fun _ _ _ _  => by kernel_rfl
abbrev k3 : Sk := [(0,.v)]
noncomputable def o7 := ob Try.f18 [.r,.l]
def B7 (P : PT) (x0 : Value) (H : AHeap) : Prop :=
  lenK x0 (fun n1 => mkR H 24 25 [(Value.slice none 0 0)] (n1 : Int) (n1 : Int) (fun v3 H2 => B6 P x0 v3 H2))
theorem q7 (P : PT) : QB Try.prog T0 23 o7 (En 23 k2 (B6 P)) k3 (B7 P) := fun _ _ _  => by kernel_rfl
noncomputable def o8 := ob Try.f18 [.l]
def B8 (P : PT) (x0 : Value) (H : AHeap) : Prop :=
  B7 P x0 H
theorem q8 (P : PT) : QB Try.prog T0 23 o8 (En 23 k3 (B7 P)) k3 (B8 P) := fun _ _ _  => by kernel_rfl
noncomputable def code : Code := (.seq (.region 0 ⟨o8⟩ false) (.seq (.region 1 ⟨o7⟩ false) (.seq (.seq (.region 2 ⟨o6⟩ false) (.block 0 (.loop (.seq (.seq (.region 3 ⟨o5⟩ false) (.cond (.tmp 11) .skip (.exit 0))) (.seq (.block 1 (.region 5 ⟨o4⟩ false)) (.region 4 ⟨o3⟩ false)))))) (.seq (.region 6 ⟨o1⟩ false) .ret))))
theorem body : Try.f18.body = some code := by kernel_rfl
theorem main (P : PT) : ∀ env H, (En 23 k3 (B8 P)) env H → AW Try.prog T0 code env H (mkQ (ret P) (fun _ _ _ => False) (ret P)) :=
  (r_seq (rB T0_ok (q8 P)) (r_seq (rB T0_ok (q7 P)) (r_seq (r_seq (rB T0_ok (q6 P)) (r_block (rL (l2 P) (fun N2 => (r_seq (r_seq (rB T0_ok (q5 P N2)) (r_cond rfl r_skip (r_exit (fun _ _ h => h)))) (r_seq (r_block (rB T0_ok (q4 P N2))) (rB T0_ok (q3 P N2)))))))) (r_seq (rB T0_ok (q1 P)) r_ret))))
theorem ac (P : PT) (x0 : Value) (H : AHeap) (h : B8 P x0 H) : AC Try.prog T0 18 [x0] H P :=
  r_fn T0_ok (c := code) (n := 23) Try.func18 body (by kernel_rfl) (main P) (En_mk (x0, ()) (by kernel_rfl) ⟨by kernel_rfl, trivial⟩ h)

end F18
-- loop.example/g01329/impl.IsOrientedBy
namespace F19
noncomputable def ret (P : PT) : EP := retE T0 76 Try.f19 P
abbrev k0 : Sk := [(3,.x),(10,.v)]
noncomputable def o1 := ob Try.f19 [.r,.r,.r,.r,.r,.r,.l]
def B1 (P : PT) (x3 : Nat) (x10 : Value) (H : AHeap) : Prop :=
  mlenK H x10 (fun n1 => ld1 H x3 1 (fun v2 => lenK v2 (fun n3 => P (Value.tuple ⟨[(Value.bool (((n1 : Int) : Int) == (IntKind.i64.wrap (2 * (n3 : Int))))), (Value.int .i64 0)]⟩) H)))
theorem q1 (P : PT) : QB Try.prog T0 76 o1 (ret P) k0 (B1 P) := fun _ _ _ _  => by kernel_rfl
abbrev k1 : Sk := [(2,.v),(3,.x),(10,.v),(40,.v),(41,.i .i64),(42,.i .i64)]
noncomputable def o3 := ob Try.f19 [.r,.r,.r,.r,.r,.l,.r,.l,.l,.r,.r,.r]
def B3 (P : PT) (N2 : NTy k1 Pr) (x2 : Value) (x3 : Nat) (x10 x40 : Value) (x41 x42 : Int) (H : AHeap) : Prop :=
  N2 x2 x3 x10 x40 x41 (IntKind.i64.wrap (x42 + 1)) H
theorem q3 (P : PT) (N2 : NTy k1 Pr) : QB Try.prog T0 76 o3 (En 76 k1 N2) k1 (B3 P N2) := fun _ _ _ _ _ _ _ _  => by kernel_rfl
abbrev k2 : Sk := [(2,.v),(3,.x),(10,.v),(11,.i .i64),(40,.v),(41,.i .i64),(42,.i .i64),(50,.v),(51,.i .i64),(52,.i .i64)]
noncomputable def o5 := ob Try.f19 [.r,.r,.r,.r,.r,.l,.r,.l,.l,.r,.r,.l,.l,.r,.r,.l,.l,.r,.r,.r]
def B5 (P : PT) (N2 : NTy k1 Pr) (N4 : NTy k2 Pr) (x2 : Value) (x3 : Nat) (x10 : Value) (x11 : Int) (x40 : Value) (x41 x42 : Int) (x50 : Value) (x51 x52 : Int) (H : AHeap) : Prop :=
  N4 x2 x3 x10 x11 x40 x41 x42 x50 x51 (IntKind.i64.wrap (x52 + 1)) H
theorem q5 (P : PT) (N2 : NTy k1 Pr) (N4 : NTy k2 Pr) : QB Try.prog T0 76 o5 (En 76 k2 N4) k2 (B5 P N2 N4) := fun _ _ _ _ _ _ _ _ _ _ _ _  => by kernel_rfl
abbrev k3 : Sk := [(2,.v),(3,.x),(10,.v),(11,.i .i64),(14,.x),(40,.v),(41,.i .i64),(42,.i .i64),(50,.v),(51,.i .i64),(52,.i .i64)]
noncomputable def o6 := ob Try.f19 [.r,.r,.r,.r,.r,.l,.r,.l,.l,.r,.r,.l,.l,.r,.r,.l,.l,.r,.r,.l,.l,.r,.r]
def B6 (P : PT) (N2 : NTy k1 Pr) (N4 : NTy k2 Pr) (x2 : Value) (x3 : Nat) (x10 : Value) (x11 : Int) (x14 : Nat) (x40 : Value) (x41 x42 : Int) (x50 : Value) (x51 x52 : Int) (H : AHeap) : Prop :=
  ldI .i64 H x14 0 (fun v1 => ld1 H x14 1 (fun v3 => asB v3 (fun v2 => mupK Try.prog 85 H x10 (Value.agg ⟨[(Value.int .i64 v1), (Value.bool v2)]⟩) (Value.bool true) (fun H4 => B5 P N2 N4 x2 x3 x10 x11 x40 x41 x42 x50 x51 x52 H4))))
theorem q6 (P : PT) (N2 : NTy k1 Pr) (N4 : NTy k2 Pr) : QB Try.prog T0 76 o6 (En 76 k2 (B5 P N2 N4)) k3 (B6 P N2 N4) := fun _ _ _ _ _ _ _ _ _ _ _ _ _  => by kernel_rfl
noncomputable def o7 := ob Try.f19 [.r,.r,.r,.r,.r,.l,.r,.l,.l,.r,.r,.l,.l,.r,.r,.l,.l,.r,.r,.l,.l,.r,.l]
def B7 (P : PT) (N2 : NTy k1 Pr) (N4 : NTy k2 Pr) (x2 : Value) (x3 : Nat) (x10 : Value) (x11 : Int) (x14 : Nat) (x40 : Value) (x41 x42 : Int) (x50 : Value) (x51 x52 : Int) (H : AHeap) : Prop :=
  ld1 H x14 1 (fun v2 => asB v2 (fun v1 => idxK x2 x11 1 (fun b3 o4 => ldI .i64 H b3 o4 (fun v5 => stK H x14 1 [(Value.bool (!(v1 == ((v5 : Int) == 1))))] (fun H6 => B6 P N2 N4 x2 x3 x10 x11 x14 x40 x41 x42 x50 x51 x52 H6)))))
theorem q7 (P : PT) (N2 : NTy k1 Pr) (N4 : NTy k2 Pr) : QD Try.prog T0 76 o7 [(0, false), (1, false), (2, false), (3, false), (4, false), (5, false), (6, false), (7, false), (8, false), (9, false)] (En 76 k3 (B6 P N2 N4)) k3 (B7 P N2 N4) := fun _ _ _ _ _ _ _ _ _ _ _ _ _  => by kernel_rfl
noncomputable def o8 := ob Try.f19 [.r,.r,.r,.r,.r,.l,.r,.l,.l,.r,.r,.l,.l,.r,.r,.l,.l,.r,.r,.l,.l,.l]
def B8 (P : PT) (N2 : NTy k1 Pr) (N4 : NTy k2 Pr) (x2 : Value) (x3 : Nat) (x10 : Value) (x11 : Int) (x40 : Value) (x41 x42 : Int) (x50 : Value) (x51 x52 : Int) (H : AHeap) : Prop :=
  idxK x50 x52 2 (fun b1 o2 => ldI .i64 H b1 o2 (fun v3 => ld1 H b1 (o2 + 1) (fun v5 => asB v5 (fun v4 => newK H [(Value.int .i64 0), (Value.bool false)] 85 (fun b6 H7 => stK H7 b6 0 [(Value.int .i64 v3), (Value.bool v4)] (fun H8 => B7 P N2 N4 x2 x3 x10 x11 b6 x40 x41 x42 x50 x51 x52 H8))))))
theorem q8 (P : PT) (N2 : NTy k1 Pr) (N4 : NTy k2 Pr) : QB Try.prog T0 76 o8 (En 76 k3 (B7 P N2 N4)) k2 (B8 P N2 N4) := fun _ _ _ _ _ _ _ _ _ _ _ _  => by kernel_rfl
noncomputable def o9 := ob Try.f19 [.r,.r,.r,.r,.r,.l,.r,.l,.l,.r,.r,.l,.l,.r,.r,.l,.l,.l]
def B9 (P : PT) (N2 : NTy k1 Pr) (N4 : NTy k2 Pr) (x2 : Value) (x3 : Nat) (x10 : Value) (x11 : Int) (x40 : Value) (x41 x42 : Int) (x50 : Value) (x51 x52 : Int) (H : AHeap) : Prop :=
  pif (decide ((x52 : Int) < x51)) (B8 P N2 N4 x2 x3 x10 x11 x40 x41 x42 x50 x51 x52 H) (B3 P N2 x2 x3 x10 x40 x41 x42 H)
theorem q9 (P : PT) (N2 : NTy k1 Pr) (N4 : NTy k2 Pr) : QB Try.prog T0 76 o9 (cnd 53 (En 76 k2 (B8 P N2 N4)) (En 76 k1 (B3 P N2))) k2 (B9 P N2 N4) := fun _ _ _ _ _ _ _ _ _ _ _ _  => by kernel_rfl
def L4 (P : PT) (N2 : NTy k1 Pr) (x2 : Value) (x3 : Nat) (x10 : Value) (x11 : Int) (x40 : Value) (x41 x42 : Int) (x50 : Value) (x51 x52 : Int) (H : AHeap) : Prop :=
  ∃ (I : NTy k2 Pr) (μ : NTy k2 (AHeap → Nat)), I x2 x3 x10 x11 x40 x41 x42 x50 x51 x52 H ∧ ∀ y2 y3 y10 y11 y40 y41 y42 y50 y51 y52 G, I y2 y3 y10 y11 y40 y41 y42 y50 y51 y52 G → B9 P N2 (fun z2 z3 z10 z11 z40 z41 z42 z50 z51 z52 G' => I z2 z3 z10 z11 z40 z41 z42 z50 z51 z52 G' ∧ μ z2 z3 z10 z11 z40 z41 z42 z50 z51 z52 G' < μ y2 y3 y10 y11 y40 y41 y42 y50 y51 y52 G) y2 y3 y10 y11 y40 y41 y42 y50 y51 y52 G
theorem l4 (P : PT) (N2 : NTy k1 Pr) : LQ k2 (L4 P N2) (B9 P N2) := fun ⟨_,_,_,_,_,_,_,_,_,_,_⟩ _ ⟨I, μ, h0, hI⟩ => ⟨apT _ I, apT _ μ, h0, fun ⟨_,_,_,_,_,_,_,_,_,_,_⟩ _ h => hI _ _ _ _ _ _ _ _ _ _ _  h⟩
abbrev k4 : Sk := [(2,.v),(3,.x),(10,.v),(11,.i .i64),(12,.v),(40,.v),(41,.i .i64),(42,.i .i64)]
noncomputable def o10 := ob Try.f19 [.r,.r,.r,.r,.r,.l,.r,.l,.l,.r,.r,.l,.l,.r,.l]
def B10 (P : PT) (N2 : NTy k1 Pr) (x2 : Value) (x3 : Nat) (x10 : Value) (x11 : Int) (x12 x40 : Value) (x41 x42 : Int) (H : AHeap) : Prop :=
  ldI .i64 H x3 0 (fun v1 => ld1 H x3 1 (fun v2 => AC Try.prog T0 58 [x12] H (fun v3 H4 => asI .u64 v3 (fun v5 => (AHeap.le H H4) ∧ (AC Try.prog T0 57 [(Value.agg ⟨[(Value.int .i64 v1), v2]⟩), (Value.int .u64 v5)] H4 (fun v6 H7 => lenK v6 (fun n9 => L4 P N2 x2 x3 x10 x11 x40 x41 x42 v6 (n9 : Int) 0 H7)))))))
theorem q10 (P : PT) (N2 : NTy k1 Pr) : QD Try.prog T0 76 o10 [(0, false), (1, false), (5, false), (2, true), (3, false), (4, false)] (En 76 k2 (L4 P N2)) k4 (B10 P N2) := fun _ _ _ _ _ _ _ _ _ _  => by kernel_rfl
noncomputable def o11 := ob Try.f19 [.r,.r,.r,.r,.r,.l,.r,.l,.l,.r,.r,.l,.l,.l]
def B11 (P : PT) (N2 : NTy k1 Pr) (x2 : Value) (x3 : Nat) (x10 x40 : Value) (x41 x42 : Int) (H : AHeap) : Prop :=
  idxK x40 x42 1 (fun b1 o2 => ld1 H b1 o2 (fun v3 => B10 P N2 x2 x3 x10 x42 v3 x40 x41 x42 H))
theorem q11 (P : PT) (N2 : NTy k1 Pr) : QB Try.prog T0 76 o11 (En 76 k4 (B10 P N2)) k1 (B11 P N2) := fun _ _ _ _ _ _ _ _  => by kernel_rfl
noncomputable def o12 := ob Try.f19 [.r,.r,.r,.r,.r,.l,.r,.l,.l,.l]
def B12 (P : PT) (N2 : NTy k1 Pr) (x2 : Value) (x3 : Nat) (x10 x40 : Value) (x41 x42 : Int) (H : AHeap) : Prop :=
  pif (decide ((x42 : Int) < x41)) (B11 P N2 x2 x3 x10 x40 x41 x42 H) (B1 P x3 x10 H)
theorem q12 (P : PT) (N2 : NTy k1 Pr) : QB Try.prog T0 76 o12 (cnd 43 (En 76 k1 (B11 P N2)) (En 76 k0 (B1 P))) k1 (B12 P N2) := fun _ _ _ _ _ _ _ _  => by kernel_rfl
def L2 (P : PT) (x2 : Value) (x3 : Nat) (x10 x40 : Value) (x41 x42 : Int) (H : AHeap) : Prop :=
  ∃ (I : NTy k1 Pr) (μ : NTy k1 (AHeap → Nat)), I x2 x3 x10 x40 x41 x42 H ∧ ∀ y2 y3 y10 y40 y41 y42 G, I y2 y3 y10 y40 y41 y42 G → B12 P (fun z2 z3 z10 z40 z41 z42 G' => I z2 z3 z10 z40 z41 z42 G' ∧ μ z2 z3 z10 z40 z41 z42 G' < μ y2 y3 y10 y40 y41 y42 G) y2 y3 y10 y40 y41 y42 G
theorem l2 (P : PT) : LQ k1 (L2 P) (B12 P) := fun ⟨_,_,_,_,_,_,_⟩ _ ⟨I, μ, h0, hI⟩ => ⟨apT _ I, apT _ μ, h0, fun ⟨_,_,_,_,_,_,_⟩ _ h => hI _ _ _ _ _ _ _  h⟩
abbrev k5 : Sk := [(1,.v),(2,.v),(3,.x),(10,.v)]
noncomputable def o13 := ob Try.f19 [.r,.r,.r,.r,.r,.l,.l]
def B13 (P : PT) (x1 x2 : Value) (x3 : Nat) (x10 : Value) (H : AHeap) : Prop :=
  lenK x1 (fun n1 => L2 P x2 x3 x10 x1 (n1 : Int) 0 H)
theorem q13 (P : PT) : QB Try.prog T0 76 o13 (En 76 k1 (L2 P)) k5 (B13 P) := fun _ _ _ _ _ _  => by kernel_rfl
abbrev k6 : Sk := [(1,.v),(2,.v),(3,.x)]
noncomputable def o14 := ob Try.f19 [.r,.r,.r,.r,.l]
def B14 (P : PT) (x1 x2 : Value) (x3 : Nat) (H : AHeap) : Prop :=
  newM H (fun b1 H2 => B13 P x1 x2 x3 (Value.map (some b1)) H2)
theorem q14 (P : PT) : QB Try.prog T0 76 o14 (En 76 k5 (B13 P)) k6 (B14 P) := fun _ _ _ _ _  => by kernel_rfl
abbrev k7 : Sk := []
noncomputable def o15 := ob Try.f19 [.r,.r,.r,.l,.r,.l,.l]
def B15 (P : PT) (H : AHeap) : Prop :=
  P (Value.tuple ⟨[(Value.bool false), (Value.int .i64 5)]⟩) H
theorem q15 (P : PT) : QB Try.prog T0 76 o15 (ret P) k7 (B15 P) := fun _ _  => by kernel_rfl
noncomputable def o16 := ob Try.f19 [.r,.r,.r,.l,.l]
def B16 (P : PT) (x1 x2 : Value) (x3 : Nat) (H : AHeap) : Prop :=
  ldI .i64 H x3 0 (fun v1 => ld1 H x3 1 (fun v2 => AC Try.prog T0 56 [(Value.agg ⟨[(Value.int .i64 v1), v2]⟩), x1] H (fun v3 H4 => asB v3 (fun v5 => pif (!v5) (B15 P H4) (B14 P x1 x2 x3 H4)))))
theorem q16 (P : PT) : QB Try.prog T0 76 o16 (cnd 38 (En 76 k7 (B15 P)) (En 76 k6 (B14 P))) k6 (B16 P) := fun _ _ _ _ _  => by kernel_rfl
abbrev k8 : Sk := [(9,.i .i64)]
noncomputable def o17 := ob Try.f19 [.r,.r,.l,.r,.r,.l,.l]
def B17 (P : PT) (x9 : Int) (H : AHeap) : Prop :=
  P (Value.tuple ⟨[(Value.bool false), (Value.int .i64 x9)]⟩) H
theorem q17 (P : PT) : QB Try.prog T0 76 o17 (ret P) k8 (B17 P) := fun _ _ _  => by kernel_rfl
abbrev k9 : Sk := [(1,.v),(2,.v),(3,.x),(9,.i .i64)]
noncomputable def o18 := ob Try.f19 [.r,.r,.l,.r,.l]
def B18 (P : PT) (x1 x2 : Value) (x3 : Nat) (x9 : Int) (H : AHeap) : Prop :=
  pif ((x9 : Int) != 0) (B17 P x9 H) (B16 P x1 x2 x3 H)
theorem q18 (P : PT) : QB Try.prog T0 76 o18 (cnd 33 (En 76 k8 (B17 P)) (En 76 k6 (B16 P))) k9 (B18 P) := fun _ _ _ _ _ _  => by kernel_rfl
abbrev k10 : Sk := [(1,.v),(2,.v),(3,.x),(8,.v)]
noncomputable def o19 := ob Try.f19 [.r,.r,.l,.l]
def B19 (P : PT) (x1 x2 : Value) (x3 : Nat) (x8 : Value) (H : AHeap) : Prop :=
  ldI .i64 H x3 0 (fun v1 => ld1 H x3 1 (fun v2 => ldI .i64 H x3 0 (fun v3 => ld1 H x3 1 (fun v4 => AC Try.prog T0 54 [(Value.agg ⟨[(Value.int .i64 v3), v4]⟩), x1] H (fun v5 H6 => asB v5 (fun v7 => (AHeap.le H H6) ∧ (pif v7 (lenK x2 (fun n8 => lenK x1 (fun n9 => pif (((n8 : Int) : Int) == (n9 : Int)) (AC Try.prog T0 55 [x2, x8] H6 (fun v10 H11 => asB v10 (fun v12 => (AHeap.le H6 H11) ∧ (AC Try.prog T0 41 [(Value.agg ⟨[(Value.int .i64 v1), v2]⟩), (Value.bool v12)] H11 (fun v13 H14 => asI .i64 v13 (fun v15 => B18 P x1 x2 x3 v15 H14)))))) (AC Try.prog T0 41 [(Value.agg ⟨[(Value.int .i64 v1), v2]⟩), (Value.bool false)] H6 (fun v16 H17 => asI .i64 v16 (fun v18 => B18 P x1 x2 x3 v18 H17)))))) (AC Try.prog T0 41 [(Value.agg ⟨[(Value.int .i64 v1), v2]⟩), (Value.bool false)] H6 (fun v19 H20 => asI .i64 v19 (fun v21 => B18 P x1 x2 x3 v21 H20))))))))))
theorem q19 (P : PT) : QD Try.prog T0 76 o19 [(0, false), (1, false), (2, false), (3, true), (4, false), (5, false), (6, false), (7, false), (8, false), (9, false), (10, false), (11, false), (12, false), (13, false), (14, true), (15, false), (16, false), (17, false)] (En 76 k9 (B18 P)) k10 (B19 P) := fun _ _ _ _ _ _  => by kernel_rfl
noncomputable def o20 := ob Try.f19 [.r,.l]
def B20 (P : PT) (x1 x2 : Value) (x3 : Nat) (H : AHeap) : Prop :=
  B19 P x1 x2 x3 (Value.func (.func 52) ⟨[]⟩ ⟨[]⟩) H
theorem q20 (P : PT) : QB Try.prog T0 76 o20 (En 76 k10 (B19 P)) k6 (B20 P) := fun _ _ _ _ _  => by kernel_rfl
abbrev k11 : Sk := [(0,.g [.i,.v]),(1,.v),(2,.v)]
noncomputable def o21 := ob Try.f19 [.l]
def B21 (P : PT) (x0a : Int) (x0b x1 x2 : Value) (H : AHeap) : Prop :=
  newK H [(Value.int .i64 x0a), x0b] 31 (fun b1 H2 => B20 P x1 x2 b1 H2)
theorem q21 (P : PT) : QB Try.prog T0 76 o21 (En 76 k6 (B20 P)) k11 (B21 P) := fun _ _ _ _ _ _  => by kernel_rfl
noncomputable def code : Code := (.seq (.region 0 ⟨o21⟩ false) (.seq (.region 1 ⟨o20⟩ false) (.seq (.seq (.region 2 ⟨o19⟩ true) (.seq (.region 3 ⟨o18⟩ false) (.cond (.tmp 33) (.seq (.region 4 ⟨o17⟩ false) .ret) .skip))) (.seq (.seq (.region 5 ⟨o16⟩ false) (.cond (.tmp 38) (.seq (.region 6 ⟨o15⟩ false) .ret) .skip)) (.seq (.region 7 ⟨o14⟩ false) (.seq (.seq (.region 8 ⟨o13⟩ false) (.block 0 (.loop (.seq (.region 9 ⟨o12⟩ false) (.seq (.cond (.tmp 43) .skip (.exit 0)) (.seq (.block 1 (.seq (.region 10 ⟨o11⟩ false) (.seq (.region 11 ⟨o10⟩ true) (.block 2 (.loop (.seq (.region 12 ⟨o9⟩ false) (.seq (.cond (.tmp 53) .skip (.exit 2)) (.seq (.block 3 (.seq (.region 13 ⟨o8⟩ false) (.seq (.region 14 ⟨o7⟩ true) (.region 15 ⟨o6⟩ false)))) (.region 16 ⟨o5⟩ false))))))))) (.region 17 ⟨o3⟩ false))))))) (.seq (.region 18 ⟨o1⟩ false) .ret)))))))
theorem body : Try.f19.body = some code := by kernel_rfl
theorem main (P : PT) : ∀ env H, (En 76 k11 (B21 P)) env H → AW Try.prog T0 code env H (mkQ (ret P) (fun _ _ _ => False) (ret P)) :=
  (r_seq (rB T0_ok (q21 P)) (r_seq (rB T0_ok (q20 P)) (r_seq (r_seq (rD T0_ok mixed [(0, false), (1, false), (2, false), (3, true), (4, false), (5, false), (6, false), (7, false), (8, false), (9, false), (10, false), (11, false), (12, false), (13, false), (14, true), (15, false), (16, false), (17, false)] (by kernel_rfl) (q19 P)) (r_seq (rB T0_ok (q18 P)) (r_cond rfl (r_seq (rB T0_ok (q17 P)) r_ret) r_skip))) (r_seq (r_seq (rB T0_ok (q16 P)) (r_cond rfl (r_seq (rB T0_ok (q15 P)) r_ret) r_skip)) (r_seq (rB T0_ok (q14 P)) (r_seq (r_seq (rB T0_ok (q13 P)) (r_block (rL (l2 P) (fun N2 => (r_seq (rB T0_ok (q12 P N2)) (r_seq (r_cond rfl r_skip (r_exit (fun _ _ h => h))) (r_seq (r_block (r_seq (rB T0_ok (q11 P N2)) (r_seq (rD T0_ok mixed [(0, false), (1, false), (5, false), (2, true), (3, false), (4, false)] (by kernel_rfl) (q10 P N2)) (r_block (rL (l4 P N2) (fun N4 => (r_seq (rB T0_ok (q9 P N2 N4)) (r_seq (r_cond rfl r_skip (r_exit (fun _ _ h => h))) (r_seq (r_block (r_seq (rB T0_ok (q8 P N2 N4)) (r_seq (rD T0_ok mixed [(0, false), (1, false), (2, false), (3, false), (4, false), (5, false), (6, false), (7, false), (8, false), (9, false)] (by kernel_rfl) (q7 P N2 N4)) (rB T0_ok (q6 P N2 N4))))) (rB T0_ok (q5 P N2 N4))))))))))) (rB T0_ok (q3 P N2))))))))) (r_seq (rB T0_ok (q1 P)) r_ret)))))))
theorem ac (P : PT) (x0a : Int) (x0b x1 x2 : Value) (H : AHeap) (h : B21 P x0a x0b x1 x2 H) : AC Try.prog T0 19 [(Value.agg ⟨[(Value.int .i64 x0a), x0b]⟩), x1, x2] H P :=
  r_fn T0_ok (c := code) (n := 76) Try.func19 body (by kernel_rfl) (main P) (En_mk (x0a, x0b, x1, x2, ()) (by kernel_rfl) ⟨by kernel_rfl, by kernel_rfl, by kernel_rfl, trivial⟩ h)

end F19
-- loop.example/g01329/laws.eqInt64SS
namespace F20
noncomputable def ret (P : PT) : EP := retE T0 27 Try.f20 P
abbrev k0 : Sk := []
noncomputable def o1 := ob Try.f20 [.r,.r,.r,.l]
def B1 (P : PT) (H : AHeap) : Prop :=
  P (Value.bool true) H
theorem q1 (P : PT) : QB Try.prog T0 27 o1 (ret P) k0 (B1 P) := fun _ _  => by kernel_rfl
abbrev k1 : Sk := [(0,.v),(1,.v),(5,.i .i64)]
noncomputable def o3 := ob Try.f20 [.r,.r,.l,.r,.l,.l,.r,.r]
def B3 (P : PT) (N2 : NTy k1 Pr) (x0 x1 : Value) (x5 : Int) (H : AHeap) : Prop :=
  N2 x0 x1 (IntKind.i64.wrap (x5 + 1)) H
theorem q3 (P : PT) (N2 : NTy k1 Pr) : QB Try.prog T0 27 o3 (En 27 k1 N2) k1 (B3 P N2) := fun _ _ _ _ _  => by kernel_rfl
noncomputable def o4 := ob Try.f20 [.r,.r,.l,.r,.l,.l,.r,.l,.l,.r,.l,.l]
def B4 (P : PT) (N2 : NTy k1 Pr) (H : AHeap) : Prop :=
  P (Value.bool false) H
theorem q4 (P : PT) (N2 : NTy k1 Pr) : QB Try.prog T0 27 o4 (ret P) k0 (B4 P N2) := fun _ _  => by kernel_rfl
noncomputable def o5 := ob Try.f20 [.r,.r,.l,.r,.l,.l,.r,.l,.l,.l]
def B5 (P : PT) (N2 : NTy k1 Pr) (x0 x1 : Value) (x5 : Int) (H : AHeap) : Prop :=
  idxK x0 x5 1 (fun b1 o2 => ld1 H b1 o2 (fun v3 => idxK x1 x5 1 (fun b4 o5 => ld1 H b4 o5 (fun v6 => AC Try.prog T0 15 [v3, v6] H (fun v7 H8 => asB v7 (fun v9 => pif (!v9) (B4 P N2 H8) (B3 P N2 x0 x1 x5 H8)))))))
theorem q5 (P : PT) (N2 : NTy k1 Pr) : QD Try.prog T0 27 o5 [(0, false), (1, false), (2, false), (3, false), (4, false), (5, false), (6, false), (7, false), (8, false), (9, false)] (cnd 26 (En 27 k0 (B4 P N2)) (En 27 k1 (B3 P N2))) k1 (B5 P N2) := fun _ _ _ _ _  => by kernel_rfl
noncomputable def o6 := ob Try.f20 [.r,.r,.l,.r,.l,.l,.l,.l]
def B6 (P : PT) (N2 : NTy k1 Pr) (x0 x1 : Value) (x5 : Int) (H : AHeap) : Prop :=
  lenK x0 (fun n1 => pif (decide ((x5 : Int) < (n1 : Int))) (B5 P N2 x0 x1 x5 H) (B1 P H))
theorem q6 (P : PT) (N2 : NTy k1 Pr) : QB Try.prog T0 27 o6 (cnd 14 (En 27 k1 (B5 P N2)) (En 27 k0 (B1 P))) k1 (B6 P N2) := fun _ _ _ _ _  => by kernel_rfl
def L2 (P : PT) (x0 x1 : Value) (x5 : Int) (H : AHeap) : Prop :=
  ∃ (I : NTy k1 Pr) (μ : NTy k1 (AHeap → Nat)), I x0 x1 x5 H ∧ ∀ y0 y1 y5 G, I y0 y1 y5 G → B6 P (fun z0 z1 z5 G' => I z0 z1 z5 G' ∧ μ z0 z1 z5 G' < μ y0 y1 y5 G) y0 y1 y5 G
theorem l2 (P : PT) : LQ k1 (L2 P) (B6 P) := fun ⟨_,_,_,_⟩ _ ⟨I, μ, h0, hI⟩ => ⟨apT _ I, apT _ μ, h0, fun ⟨_,_,_,_⟩ _ h => hI _ _ _ _  h⟩
abbrev k2 : Sk := [(0,.v),(1,.v)]
noncomputable def o7 := ob Try.f20 [.r,.r,.l,.l]
def B7 (P : PT) (x0 x1 : Value) (H : AHeap) : Prop :=
  L2 P x0 x1 0 H
theorem q7 (P : PT) : QB Try.prog T0 27 o7 (En 27 k1 (L2 P)) k2 (B7 P) := fun _ _ _ _  => by kernel_rfl
noncomputable def o8 := ob Try.f20 [.r,.l,.r,.l,.l]
def B8 (P : PT) (H : AHeap) : Prop :=
  P (Value.bool false) H
theorem q8 (P : PT) : QB Try.prog T0 27 o8 (ret P) k0 (B8 P) := fun _ _  => by kernel_rfl
noncomputable def o9 := ob Try.f20 [.r,.l,.l]
def B9 (P : PT) (x0 x1 : Value) (H : AHeap) : Prop :=
  lenK x0 (fun n1 => lenK x1 (fun n2 => pif (((n1 : Int) : Int) != (n2 : Int)) (B8 P H) (B7 P x0 x1 H)))
theorem q9 (P : PT) : QB Try.prog T0 27 o9 (cnd 10 (En 27 k0 (B8 P)) (En 27 k2 (B7 P))) k2 (B9 P) := fun _ _ _ _  => by kernel_rfl
noncomputable def o10 := ob Try.f20 [.l]
def B10 (P : PT) (x0 x1 : Value) (H : AHeap) : Prop :=
  B9 P x0 x1 H
theorem q10 (P : PT) : QB Try.prog T0 27 o10 (En 27 k2 (B9 P)) k2 (B10 P) := fun _ _ _ _  => by kernel_rfl
noncomputable def code : Code := (.seq (.region 0 ⟨o10⟩ false) (.seq (.seq (.region 1 ⟨o9⟩ false) (.cond (.tmp 10) (.seq (.region 2 ⟨o8⟩ false) .ret) .skip)) (.seq (.seq (.region 3 ⟨o7⟩ false) (.block 0 (.loop (.seq (.seq (.region 4 ⟨o6⟩ false) (.cond (.tmp 14) .skip (.exit 0))) (.seq (.block 1 (.seq (.region 6 ⟨o5⟩ true) (.cond (.tmp 26) (.seq (.region 7 ⟨o4⟩ false) .ret) .skip))) (.region 5 ⟨o3⟩ false)))))) (.seq (.region 8 ⟨o1⟩ false) .ret))))
theorem body : Try.f20.body = some code := by kernel_rfl
theorem main (P : PT) : ∀ env H, (En 27 k2 (B10 P)) env H → AW Try.prog T0 code env H (mkQ (ret P) (fun _ _ _ => False) (ret P)) :=
  (r_seq (rB T0_ok (q10 P)) (r_seq (r_seq (rB T0_ok (q9 P)) (r_cond rfl (r_seq (rB T0_ok (q8 P)) r_ret) r_skip)) (r_seq (r_seq (rB T0_ok (q7 P)) (r_block (rL (l2 P) (fun N2 => (r_seq (r_seq (rB T0_ok (q6 P N2)) (r_cond rfl r_skip (r_exit (fun _ _ h => h)))) (r_seq (r_block (r_seq (rD T0_ok mixed [(0, false), (1, false), (2, false), (3, false), (4, false), (5, false), (6, false), (7, false), (8, false), (9, false)] (by kernel_rfl) (q5 P N2)) (r_cond rfl (r_seq (rB T0_ok (q4 P N2)) r_ret) r_skip))) (rB T0_ok (q3 P N2)))))))) (r_seq (rB T0_ok (q1 P)) r_ret))))
theorem ac (P : PT) (x0 x1 : Value) (H : AHeap) (h : B10 P x0 x1 H) : AC Try.prog T0 20 [x0, x1] H P :=
  r_fn T0_ok (c := code) (n := 27) Try.func20 body (by kernel_rfl) (main P) (En_mk (x0, x1, ()) (by kernel_rfl) ⟨by kernel_rfl, by kernel_rfl, trivial⟩ h)

end F20
-- loop.example/g01329/laws.szEdgeS
namespace F35
noncomputable def ret (P : PT) : EP := retE T0 12 Try.f35 P
abbrev k0 : Sk := [(1,.i .i64)]
noncomputable def o1 := ob Try.f35 [.r,.r,.r,.l]
def B1 (P : PT) (x1 : Int) (H : AHeap) : Prop :=
  P (Value.int .i64 x1) H
theorem q1 (P : PT) : QB Try.prog T0 12 o1 (ret P) k0 (B1 P) := fun _ _ _  => by kernel_rfl
abbrev k1 : Sk := []
noncomputable def o2 := ob Try.f35 [.r,.r,.l,.r,.l,.l]
def B2 (P : PT) (H : AHeap) : Prop :=
  P (Value.int .i64 (-1)) H
theorem q2 (P : PT) : QB Try.prog T0 12 o2 (ret P) k1 (B2 P) := fun _ _  => by kernel_rfl
noncomputable def o3 := ob Try.f35 [.r,.r,.l,.l]
def B3 (P : PT) (x1 : Int) (H : AHeap) : Prop :=
  pif (decide ((x1 : Int) < 0)) (B2 P H) (B1 P x1 H)
theorem q3 (P : PT) : QB Try.prog T0 12 o3 (cnd 10 (En 12 k1 (B2 P)) (En 12 k0 (B1 P))) k0 (B3 P) := fun _ _ _  => by kernel_rfl
abbrev k2 : Sk := [(0,.v),(1,.i .i64)]
noncomputable def o4 := ob Try.f35 [.r,.l]
def B4 (P : PT) (x0 : Value) (x1 : Int) (H : AHeap) : Prop :=
  lenK x0 (fun n1 => B3 P (IntKind.i64.wrap (x1 - (n1 : Int))) H)
theorem q4 (P : PT) : QB Try.prog T0 12 o4 (En 12 k0 (B3 P)) k2 (B4 P) := fun _ _ _ _  => by kernel_rfl
noncomputable def o5 := ob Try.f35 [.l]
def B5 (P : PT) (x0 : Value) (x1 : Int) (H : AHeap) : Prop :=
  B4 P x0 x1 H
theorem q5 (P : PT) : QB Try.prog T0 12 o5 (En 12 k2 (B4 P)) k2 (B5 P) := fun _ _ _ _  => by kernel_rfl
noncomputable def code : Code := (.seq (.region 0 ⟨o5⟩ false) (.seq (.region 1 ⟨o4⟩ false) (.seq (.seq (.region 2 ⟨o3⟩ false) (.cond (.tmp 10) (.seq (.region 3 ⟨o2⟩ false) .ret) .skip)) (.seq (.region 4 ⟨o1⟩ false) .ret))))
theorem body : Try.f35.body = some code := by kernel_rfl
theorem main (P : PT) : ∀ env H, (En 12 k2 (B5 P)) env H → AW Try.prog T0 code env H (mkQ (ret P) (fun _ _ _ => False) (ret P)) :=
  (r_seq (rB T0_ok (q5 P)) (r_seq (rB T0_ok (q4 P)) (r_seq (r_seq (rB T0_ok (q3 P)) (r_cond rfl (r_seq (rB T0_ok (q2 P)) r_ret) r_skip)) (r_seq (rB T0_ok (q1 P)) r_ret))))
theorem ac (P : PT) (x0 : Value) (x1 : Int) (H : AHeap) (h : B5 P x0 x1 H) : AC Try.prog T0 35 [x0, (Value.int .i64 x1)] H P :=
  r_fn T0_ok (c := code) (n := 12) Try.func35 body (by kernel_rfl) (main P) (En_mk (x0, x1, ()) (by kernel_rfl) ⟨by kernel_rfl, by kernel_rfl, trivial⟩ h)

end F35
-- loop.example/g01329/laws.toEdgeS
namespace F40
noncomputable def ret (P : PT) : EP := retE T0 23 Try.f40 P
abbrev k0 : Sk := [(3,.v)]
noncomputable def o1 := ob Try.f40 [.r,.r,.r,.l]
def B1 (P : PT) (x3 : Value) (H : AHeap) : Prop :=
  P x3 H
theorem q1 (P : PT) : QB Try.prog T0 23 o1 (ret P) k0 (B1 P) := fun _ _ _  => by kernel_rfl
abbrev k1 : Sk := [(0,.v),(3,.v),(4,.i .i64)]
noncomputable def o3 := ob Try.f40 [.r,.r,.l,.r,.l,.l,.r,.r]
def B3 (P : PT) (N2 : NTy k1 Pr) (x0 x3 : Value) (x4 : Int) (H : AHeap) : Prop :=
  N2 x0 x3 (IntKind.i64.wrap (x4 + 1)) H
theorem q3 (P : PT) (N2 : NTy k1 Pr) : QB Try.prog T0 23 o3 (En 23 k1 N2) k1 (B3 P N2) := fun _ _ _ _ _  => by kernel_rfl
noncomputable def o4 := ob Try.f40 [.r,.r,.l,.r,.l,.l,.r,.l,.l]
def B4 (P : PT) (N2 : NTy k1 Pr) (x0 x3 : Value) (x4 : Int) (H : AHeap) : Prop :=
  idxK x0 x4 2 (fun b1 o2 => ldI .i64 H b1 o2 (fun v3 => ldI .i64 H b1 (o2 + 1) (fun v4 => AC Try.prog T0 76 [(Value.agg ⟨[(Value.int .i64 v3), (Value.int .i64 v4)]⟩)] H (fun v5 H6 => agg2 v5 (fun v7 v8 => asI .i64 v7 (fun v9 => asI .i64 v8 (fun v10 => idxK x3 x4 2 (fun b11 o12 => stK H6 b11 o12 [(Value.int .i64 v9), (Value.int .i64 v10)] (fun H13 => B3 P N2 x0 x3 x4 H13)))))))))
theorem q4 (P : PT) (N2 : NTy k1 Pr) : QB Try.prog T0 23 o4 (En 23 k1 (B3 P N2)) k1 (B4 P N2) := fun _ _ _ _ _  => by kernel_rfl
noncomputable def o5 := ob Try.f40 [.r,.r,.l,.r,.l,.l,.l,.l]
def B5 (P : PT) (N2 : NTy k1 Pr) (x0 x3 : Value) (x4 : Int) (H : AHeap) : Prop :=
  lenK x0 (fun n1 => pif (decide ((x4 : Int) < (n1 : Int))) (B4 P N2 x0 x3 x4 H) (B1 P x3 H))
theorem q5 (P : PT) (N2 : NTy k1 Pr) : QB Try.prog T0 23 o5 (cnd 11 (En 23 k1 (B4 P N2)) (En 23 k0 (B1 P))) k1 (B5 P N2) := fun _ _ _ _ _  => by kernel_rfl
def L2 (P : PT) (x0 x3 : Value) (x4 : Int) (H : AHeap) : Prop :=
  ∃ (I : NTy k1 Pr) (μ : NTy k1 (AHeap → Nat)), I x0 x3 x4 H ∧ ∀ y0 y3 y4 G, I y0 y3 y4 G → B5 P (fun z0 z3 z4 G' => I z0 z3 z4 G' ∧ μ z0 z3 z4 G' < μ y0 y3 y4 G) y0 y3 y4 G
theorem l2 (P : PT) : LQ k1 (L2 P) (B5 P) := fun ⟨_,_,_,_⟩ _ ⟨I, μ, h0, hI⟩ => ⟨apT _ I, apT _ μ, h0, fun ⟨_,_,_,_⟩ _ h => hI _ _ _ _  h⟩
abbrev k2 : Sk := [(0,.v),(3,.v)]
noncomputable def o6 := ob Try.f40 [.r,.r,.l,.l]
def B6 (P : PT) (x0 x3 : Value) (H : AHeap) : Prop :=
  L2 P x0 x3 0 H
theorem q6 (P : PT) : QB Try.prog T0 23 o6 (En 23 k1 (L2 P)) k2 (B6 P) := fun _ _ _ _  => by kernel_rfl
abbrev k3 : Sk := [(0,.v)]
noncomputable def o7 := ob Try.f40 [.r,.l]
def B7 (P : PT) (x0 : Value) (H : AHeap) : Prop :=
  lenK x0 (fun n1 => mkR H 16 67 [(Value.int .i64 0), (Value.int .i64 0)] (n1 : Int) (n1 : Int) (fun v3 H2 => B6 P x0 v3 H2))
theorem q7 (P : PT) : QB Try.prog T0 23 o7 (En 23 k2 (B6 P)) k3 (B7 P) := fun _ _ _  => by kernel_rfl
noncomputable def o8 := ob Try.f40 [.l]
def B8 (P : PT) (x0 : Value) (H : AHeap) : Prop :=
  B7 P x0 H
theorem q8 (P : PT) : QB Try.prog T0 23 o8 (En 23 k3 (B7 P)) k3 (B8 P) := fun _ _ _  => by kernel_rfl
noncomputable def code : Code := (.seq (.region 0 ⟨o8⟩ false) (.seq (.region 1 ⟨o7⟩ false) (.seq (.seq (.region 2 ⟨o6⟩ false) (.block 0 (.loop (.seq (.seq (.region 3 ⟨o5⟩ false) (.cond (.tmp 11) .skip (.exit 0))) (.seq (.block 1 (.region 5 ⟨o4⟩ false)) (.region 4 ⟨o3⟩ false)))))) (.seq (.region 6 ⟨o1⟩ false) .ret))))
theorem body : Try.f40.body = some code := by kernel_rfl
theorem main (P : PT) : ∀ env H, (En 23 k3 (B8 P)) env H → AW Try.prog T0 code env H (mkQ (ret P) (fun _ _ _ => False) (ret P)) :=
  (r_seq (rB T0_ok (q8 P)) (r_seq (rB T0_ok (q7 P)) (r_seq (r_seq (rB T0_ok (q6 P)) (r_block (rL (l2 P) (fun N2 => (r_seq (r_seq (rB T0_ok (q5 P N2)) (r_cond rfl r_skip (r_exit (fun _ _ h => h)))) (r_seq (r_block (rB T0_ok (q4 P N2))) (rB T0_ok (q3 P N2)))))))) (r_seq (rB T0_ok (q1 P)) r_ret))))
theorem ac (P : PT) (x0 : Value) (H : AHeap) (h : B8 P x0 H) : AC Try.prog T0 40 [x0] H P :=
  r_fn T0_ok (c := code) (n := 23) Try.func40 body (by kernel_rfl) (main P) (En_mk (x0, ()) (by kernel_rfl) ⟨by kernel_rfl, trivial⟩ h)

end F40
-- loop.example/g01329/impl.graphCode
namespace F41
noncomputable def ret (P : PT) : EP := retE T0 12 Try.f41 P
abbrev k0 : Sk := []
noncomputable def o1 := ob Try.f41 [.r,.r,.l]
def B1 (P : PT) (H : AHeap) : Prop :=
  P (Value.int .i64 0) H
theorem q1 (P : PT) : QB Try.prog T0 12 o1 (ret P) k0 (B1 P) := fun _ _  => by kernel_rfl
noncomputable def o2 := ob Try.f41 [.r,.l,.l,.r,.l,.l]
def B2 (P : PT) (H : AHeap) : Prop :=
  P (Value.int .i64 1) H
theorem q2 (P : PT) : QB Try.prog T0 12 o2 (ret P) k0 (B2 P) := fun _ _  => by kernel_rfl
noncomputable def o3 := ob Try.f41 [.r,.l,.l,.r,.r,.r,.l,.l]
def B3 (P : PT) (H : AHeap) : Prop :=
  P (Value.int .i64 2) H
theorem q3 (P : PT) : QB Try.prog T0 12 o3 (ret P) k0 (B3 P) := fun _ _  => by kernel_rfl
abbrev k1 : Sk := [(1,.b)]
noncomputable def o4 := ob Try.f41 [.r,.l,.l,.r,.r,.l]
def B4 (P : PT) (x1 : Bool) (H : AHeap) : Prop :=
  pif (!x1) (B3 P H) (B1 P H)
theorem q4 (P : PT) : QB Try.prog T0 12 o4 (cnd 9 (En 12 k0 (B3 P)) (En 12 k0 (B1 P))) k1 (B4 P) := fun _ _ _  => by kernel_rfl
abbrev k2 : Sk := [(1,.b),(2,.x)]
noncomputable def o5 := ob Try.f41 [.r,.l,.l,.l]
def B5 (P : PT) (x1 : Bool) (x2 : Nat) (H : AHeap) : Prop :=
  ldI .i64 H x2 0 (fun v1 => ld1 H x2 1 (fun v2 => AC Try.prog T0 77 [(Value.agg ⟨[(Value.int .i64 v1), v2]⟩)] H (fun v3 H4 => asB v3 (fun v5 => pif (!v5) (B2 P H4) (B4 P x1 H4)))))
theorem q5 (P : PT) : QB Try.prog T0 12 o5 (cnd 5 (En 12 k0 (B2 P)) (En 12 k1 (B4 P))) k2 (B5 P) := fun _ _ _ _  => by kernel_rfl
abbrev k3 : Sk := [(0,.g [.i,.v]),(1,.b)]
noncomputable def o6 := ob Try.f41 [.l]
def B6 (P : PT) (x0a : Int) (x0b : Value) (x1 : Bool) (H : AHeap) : Prop :=
  newK H [(Value.int .i64 x0a), x0b] 31 (fun b1 H2 => B5 P x1 b1 H2)
theorem q6 (P : PT) : QB Try.prog T0 12 o6 (En 12 k2 (B5 P)) k3 (B6 P) := fun _ _ _ _ _  => by kernel_rfl
noncomputable def code : Code := (.seq (.region 0 ⟨o6⟩ false) (.seq (.block 0 (.seq (.region 1 ⟨o5⟩ false) (.cond (.tmp 5) (.seq (.region 2 ⟨o2⟩ false) .ret) (.seq (.region 3 ⟨o4⟩ false) (.cond (.tmp 9) (.seq (.region 4 ⟨o3⟩ false) .ret) .skip))))) (.seq (.region 5 ⟨o1⟩ false) .ret)))
theorem body : Try.f41.body = some code := by kernel_rfl
theorem main (P : PT) : ∀ env H, (En 12 k3 (B6 P)) env H → AW Try.prog T0 code env H (mkQ (ret P) (fun _ _ _ => False) (ret P)) :=
  (r_seq (rB T0_ok (q6 P)) (r_seq (r_block (r_seq (rB T0_ok (q5 P)) (r_cond rfl (r_seq (rB T0_ok (q2 P)) r_ret) (r_seq (rB T0_ok (q4 P)) (r_cond rfl (r_seq (rB T0_ok (q3 P)) r_ret) r_skip))))) (r_seq (rB T0_ok (q1 P)) r_ret)))
theorem ac (P : PT) (x0a : Int) (x0b : Value) (x1 : Bool) (H : AHeap) (h : B6 P x0a x0b x1 H) : AC Try.prog T0 41 [(Value.agg ⟨[(Value.int .i64 x0a), x0b]⟩), (Value.bool x1)] H P :=
  r_fn T0_ok (c := code) (n := 12) Try.func41 body (by kernel_rfl) (main P) (En_mk (x0a, x0b, x1, ()) (by kernel_rfl) ⟨by kernel_rfl, by kernel_rfl, trivial⟩ h)

end F41
-- loop.example/g01329/impl.length[loop.example/g01329/impl.Edge]
namespace F44
noncomputable def ret (P : PT) : EP := retE T0 5 Try.f44 P
abbrev k0 : Sk := [(0,.v)]
noncomputable def o1 := ob Try.f44 [.r,.l]
def B1 (P : PT) (x0 : Value) (H : AHeap) : Prop :=
  lenK x0 (fun n1 => P (Value.int .i64 (n1 : Int)) H)
theorem q1 (P : PT) : QB Try.prog T0 5 o1 (ret P) k0 (B1 P) := fun _ _ _  => by kernel_rfl
noncomputable def o2 := ob Try.f44 [.l]
def B2 (P : PT) (x0 : Value) (H : AHeap) : Prop :=
  B1 P x0 H
theorem q2 (P : PT) : QB Try.prog T0 5 o2 (En 5 k0 (B1 P)) k0 (B2 P) := fun _ _ _  => by kernel_rfl
noncomputable def code : Code := (.seq (.region 0 ⟨o2⟩ false) (.seq (.region 1 ⟨o1⟩ false) .ret))
theorem body : Try.f44.body = some code := by kernel_rfl
theorem main (P : PT) : ∀ env H, (En 5 k0 (B2 P)) env H → AW Try.prog T0 code env H (mkQ (ret P) (fun _ _ _ => False) (ret P)) :=
  (r_seq (rB T0_ok (q2 P)) (r_seq (rB T0_ok (q1 P)) r_ret))
theorem ac (P : PT) (x0 : Value) (H : AHeap) (h : B2 P x0 H) : AC Try.prog T0 44 [x0] H P :=
  r_fn T0_ok (c := code) (n := 5) Try.func44 body (by kernel_rfl) (main P) (En_mk (x0, ()) (by kernel_rfl) ⟨by kernel_rfl, trivial⟩ h)

end F44
-- loop.example/g01329/laws.eqEdgeS
namespace F46
noncomputable def ret (P : PT) : EP := retE T0 27 Try.f46 P
abbrev k0 : Sk := []
noncomputable def o1 := ob Try.f46 [.r,.r,.r,.l]
def B1 (P : PT) (H : AHeap) : Prop :=
  P (Value.bool true) H
theorem q1 (P : PT) : QB Try.prog T0 27 o1 (ret P) k0 (B1 P) := fun _ _  => by kernel_rfl
abbrev k1 : Sk := [(0,.v),(1,.v),(5,.i .i64)]
noncomputable def o3 := ob Try.f46 [.r,.r,.l,.r,.l,.l,.r,.r]
def B3 (P : PT) (N2 : NTy k1 Pr) (x0 x1 : Value) (x5 : Int) (H : AHeap) : Prop :=
  N2 x0 x1 (IntKind.i64.wrap (x5 + 1)) H
theorem q3 (P : PT) (N2 : NTy k1 Pr) : QB Try.prog T0 27 o3 (En 27 k1 N2) k1 (B3 P N2) := fun _ _ _ _ _  => by kernel_rfl
noncomputable def o4 := ob Try.f46 [.r,.r,.l,.r,.l,.l,.r,.l,.l,.r,.l,.l]
def B4 (P : PT) (N2 : NTy k1 Pr) (H : AHeap) : Prop :=
  P (Value.bool false) H
theorem q4 (P : PT) (N2 : NTy k1 Pr) : QB Try.prog T0 27 o4 (ret P) k0 (B4 P N2) := fun _ _  => by kernel_rfl
noncomputable def o5 := ob Try.f46 [.r,.r,.l,.r,.l,.l,.r,.l,.l,.l]
def B5 (P : PT) (N2 : NTy k1 Pr) (x0 x1 : Value) (x5 : Int) (H : AHeap) : Prop :=
  idxK x0 x5 2 (fun b1 o2 => ldI .i64 H b1 o2 (fun v3 => ldI .i64 H b1 (o2 + 1) (fun v4 => idxK x1 x5 2 (fun b5 o6 => ldI .i64 H b5 o6 (fun v7 => ldI .i64 H b5 (o6 + 1) (fun v8 => AC Try.prog T0 83 [(Value.agg ⟨[(Value.int .i64 v3), (Value.int .i64 v4)]⟩), (Value.agg ⟨[(Value.int .i64 v7), (Value.int .i64 v8)]⟩)] H (fun v9 H10 => asB v9 (fun v11 => pif (!v11) (B4 P N2 H10) (B3 P N2 x0 x1 x5 H10)))))))))
theorem q5 (P : PT) (N2 : NTy k1 Pr) : QD Try.prog T0 27 o5 [(0, false), (1, false), (2, false), (3, false), (4, false), (5, false), (6, false), (7, false), (8, false), (9, false)] (cnd 26 (En 27 k0 (B4 P N2)) (En 27 k1 (B3 P N2))) k1 (B5 P N2) := fun _ _ _ _ _  => by kernel_rfl
noncomputable def o6 := ob Try.f46 [.r,.r,.l,.r,.l,.l,.l,.l]
def B6 (P : PT) (N2 : NTy k1 Pr) (x0 x1 : Value) (x5 : Int) (H : AHeap) : Prop :=
  lenK x0 (fun n1 => pif (decide ((x5 : Int) < (n1 : Int))) (B5 P N2 x0 x1 x5 H) (B1 P H))
theorem q6 (P : PT) (N2 : NTy k1 Pr) : QB Try.prog T0 27 o6 (cnd 14 (En 27 k1 (B5 P N2)) (En 27 k0 (B1 P))) k1 (B6 P N2) := fun _ _ _ _ _  => by kernel_rfl
def L2 (P : PT) (x0 x1 : Value) (x5 : Int) (H : AHeap) : Prop :=
  ∃ (I : NTy k1 Pr) (μ : NTy k1 (AHeap → Nat)), I x0 x1 x5 H ∧ ∀ y0 y1 y5 G, I y0 y1 y5 G → B6 P (fun z0 z1 z5 G' => I z0 z1 z5 G' ∧ μ z0 z1 z5 G' < μ y0 y1 y5 G) y0 y1 y5 G
theorem l2 (P : PT) : LQ k1 (L2 P) (B6 P) := fun ⟨_,_,_,_⟩ _ ⟨I, μ, h0, hI⟩ => ⟨apT _ I, apT _ μ, h0, fun ⟨_,_,_,_⟩ _ h => hI _ _ _ _  h⟩
abbrev k2 : Sk := [(0,.v),(1,.v)]
noncomputable def o7 := ob Try.f46 [.r,.r,.l,.l]
def B7 (P : PT) (x0 x1 : Value) (H : AHeap) : Prop :=
  L2 P x0 x1 0 H
theorem q7 (P : PT) : QB Try.prog T0 27 o7 (En 27 k1 (L2 P)) k2 (B7 P) := fun _ _ _ _  => by kernel_rfl
noncomputable def o8 := ob Try.f46 [.r,.l,.r,.l,.l]
def B8 (P : PT) (H : AHeap) : Prop :=
  P (Value.bool false) H
theorem q8 (P : PT) : QB Try.prog T0 27 o8 (ret P) k0 (B8 P) := fun _ _  => by kernel_rfl
noncomputable def o9 := ob Try.f46 [.r,.l,.l]
def B9 (P : PT) (x0 x1 : Value) (H : AHeap) : Prop :=
  lenK x0 (fun n1 => lenK x1 (fun n2 => pif (((n1 : Int) : Int) != (n2 : Int)) (B8 P H) (B7 P x0 x1 H)))
theorem q9 (P : PT) : QB Try.prog T0 27 o9 (cnd 10 (En 27 k0 (B8 P)) (En 27 k2 (B7 P))) k2 (B9 P) := fun _ _ _ _  => by kernel_rfl
noncomputable def o10 := ob Try.f46 [.l]
def B10 (P : PT) (x0 x1 : Value) (H : AHeap) : Prop :=
  B9 P x0 x1 H
theorem q10 (P : PT) : QB Try.prog T0 27 o10 (En 27 k2 (B9 P)) k2 (B10 P) := fun _ _ _ _  => by kernel_rfl
noncomputable def code : Code := (.seq (.region 0 ⟨o10⟩ false) (.seq (.seq (.region 1 ⟨o9⟩ false) (.cond (.tmp 10) (.seq (.region 2 ⟨o8⟩ false) .ret) .skip)) (.seq (.seq (.region 3 ⟨o7⟩ false) (.block 0 (.loop (.seq (.seq (.region 4 ⟨o6⟩ false) (.cond (.tmp 14) .skip (.exit 0))) (.seq (.block 1 (.seq (.region 6 ⟨o5⟩ true) (.cond (.tmp 26) (.seq (.region 7 ⟨o4⟩ false) .ret) .skip))) (.region 5 ⟨o3⟩ false)))))) (.seq (.region 8 ⟨o1⟩ false) .ret))))
theorem body : Try.f46.body = some code := by kernel_rfl
theorem main (P : PT) : ∀ env H, (En 27 k2 (B10 P)) env H → AW Try.prog T0 code env H (mkQ (ret P) (fun _ _ _ => False) (ret P)) :=
  (r_seq (rB T0_ok (q10 P)) (r_seq (r_seq (rB T0_ok (q9 P)) (r_cond rfl (r_seq (rB T0_ok (q8 P)) r_ret) r_skip)) (r_seq (r_seq (rB T0_ok (q7 P)) (r_block (rL (l2 P) (fun N2 => (r_seq (r_seq (rB T0_ok (q6 P N2)) (r_cond rfl r_skip (r_exit (fun _ _ h => h)))) (r_seq (r_block (r_seq (rD T0_ok mixed [(0, false), (1, false), (2, false), (3, false), (4, false), (5, false), (6, false), (7, false), (8, false), (9, false)] (by kernel_rfl) (q5 P N2)) (r_cond rfl (r_seq (rB T0_ok (q4 P N2)) r_ret) r_skip))) (rB T0_ok (q3 P N2)))))))) (r_seq (rB T0_ok (q1 P)) r_ret))))
theorem ac (P : PT) (x0 x1 : Value) (H : AHeap) (h : B10 P x0 x1 H) : AC Try.prog T0 46 [x0, x1] H P :=
  r_fn T0_ok (c := code) (n := 27) Try.func46 body (by kernel_rfl) (main P) (En_mk (x0, x1, ()) (by kernel_rfl) ⟨by kernel_rfl, by kernel_rfl, trivial⟩ h)

end F46
-- loop.example/g01329/laws.szInt64S
namespace F47
noncomputable def ret (P : PT) : EP := retE T0 12 Try.f47 P
abbrev k0 : Sk := [(1,.i .i64)]
noncomputable def o1 := ob Try.f47 [.r,.r,.r,.l]
def B1 (P : PT) (x1 : Int) (H : AHeap) : Prop :=
  P (Value.int .i64 x1) H
theorem q1 (P : PT) : QB Try.prog T0 12 o1 (ret P) k0 (B1 P) := fun _ _ _  => by kernel_rfl
abbrev k1 : Sk := []
noncomputable def o2 := ob Try.f47 [.r,.r,.l,.r,.l,.l]
def B2 (P : PT) (H : AHeap) : Prop :=
  P (Value.int .i64 (-1)) H
theorem q2 (P : PT) : QB Try.prog T0 12 o2 (ret P) k1 (B2 P) := fun _ _  => by kernel_rfl
noncomputable def o3 := ob Try.f47 [.r,.r,.l,.l]
def B3 (P : PT) (x1 : Int) (H : AHeap) : Prop :=
  pif (decide ((x1 : Int) < 0)) (B2 P H) (B1 P x1 H)
theorem q3 (P : PT) : QB Try.prog T0 12 o3 (cnd 10 (En 12 k1 (B2 P)) (En 12 k0 (B1 P))) k0 (B3 P) := fun _ _ _  => by kernel_rfl
abbrev k2 : Sk := [(0,.v),(1,.i .i64)]
noncomputable def o4 := ob Try.f47 [.r,.l]
def B4 (P : PT) (x0 : Value) (x1 : Int) (H : AHeap) : Prop :=
  lenK x0 (fun n1 => B3 P (IntKind.i64.wrap (x1 - (n1 : Int))) H)
theorem q4 (P : PT) : QB Try.prog T0 12 o4 (En 12 k0 (B3 P)) k2 (B4 P) := fun _ _ _ _  => by kernel_rfl
noncomputable def o5 := ob Try.f47 [.l]
def B5 (P : PT) (x0 : Value) (x1 : Int) (H : AHeap) : Prop :=
  B4 P x0 x1 H
theorem q5 (P : PT) : QB Try.prog T0 12 o5 (En 12 k2 (B4 P)) k2 (B5 P) := fun _ _ _ _  => by kernel_rfl
noncomputable def code : Code := (.seq (.region 0 ⟨o5⟩ false) (.seq (.region 1 ⟨o4⟩ false) (.seq (.seq (.region 2 ⟨o3⟩ false) (.cond (.tmp 10) (.seq (.region 3 ⟨o2⟩ false) .ret) .skip)) (.seq (.region 4 ⟨o1⟩ false) .ret))))
theorem body : Try.f47.body = some code := by kernel_rfl
theorem main (P : PT) : ∀ env H, (En 12 k2 (B5 P)) env H → AW Try.prog T0 code env H (mkQ (ret P) (fun _ _ _ => False) (ret P)) :=
  (r_seq (rB T0_ok (q5 P)) (r_seq (rB T0_ok (q4 P)) (r_seq (r_seq (rB T0_ok (q3 P)) (r_cond rfl (r_seq (rB T0_ok (q2 P)) r_ret) r_skip)) (r_seq (rB T0_ok (q1 P)) r_ret))))
theorem ac (P : PT) (x0 : Value) (x1 : Int) (H : AHeap) (h : B5 P x0 x1 H) : AC Try.prog T0 47 [x0, (Value.int .i64 x1)] H P :=
  r_fn T0_ok (c := code) (n := 12) Try.func47 body (by kernel_rfl) (main P) (En_mk (x0, x1, ()) (by kernel_rfl) ⟨by kernel_rfl, by kernel_rfl, trivial⟩ h)

end F47
-- loop.example/g01329/spec.l07Lists
namespace F48
noncomputable def ret (P : PT) : EP := retE T0 27 Try.f48 P
abbrev k0 : Sk := []
noncomputable def o1 := ob Try.f48 [.r,.r,.r,.l]
def B1 (P : PT) (H : AHeap) : Prop :=
  P (Value.int .i64 0) H
theorem q1 (P : PT) : QB Try.prog T0 27 o1 (ret P) k0 (B1 P) := fun _ _  => by kernel_rfl
abbrev k1 : Sk := [(1,.v),(2,.x),(5,.i .i64)]
noncomputable def o3 := ob Try.f48 [.r,.r,.l,.r,.l,.l,.r,.r]
def B3 (P : PT) (N2 : NTy k1 Pr) (x1 : Value) (x2 : Nat) (x5 : Int) (H : AHeap) : Prop :=
  N2 x1 x2 (IntKind.i64.wrap (x5 + 1)) H
theorem q3 (P : PT) (N2 : NTy k1 Pr) : QB Try.prog T0 27 o3 (En 27 k1 N2) k1 (B3 P N2) := fun _ _ _ _ _  => by kernel_rfl
abbrev k2 : Sk := [(6,.i .i64)]
noncomputable def o4 := ob Try.f48 [.r,.r,.l,.r,.l,.l,.r,.l,.l,.r,.r,.l,.l]
def B4 (P : PT) (N2 : NTy k1 Pr) (x6 : Int) (H : AHeap) : Prop :=
  P (Value.int .i64 x6) H
theorem q4 (P : PT) (N2 : NTy k1 Pr) : QB Try.prog T0 27 o4 (ret P) k2 (B4 P N2) := fun _ _ _  => by kernel_rfl
abbrev k3 : Sk := [(1,.v),(2,.x),(5,.i .i64),(6,.i .i64)]
noncomputable def o5 := ob Try.f48 [.r,.r,.l,.r,.l,.l,.r,.l,.l,.r,.l]
def B5 (P : PT) (N2 : NTy k1 Pr) (x1 : Value) (x2 : Nat) (x5 x6 : Int) (H : AHeap) : Prop :=
  pif ((x6 : Int) != 0) (B4 P N2 x6 H) (B3 P N2 x1 x2 x5 H)
theorem q5 (P : PT) (N2 : NTy k1 Pr) : QB Try.prog T0 27 o5 (cnd 25 (En 27 k2 (B4 P N2)) (En 27 k1 (B3 P N2))) k3 (B5 P N2) := fun _ _ _ _ _ _  => by kernel_rfl
noncomputable def o6 := ob Try.f48 [.r,.r,.l,.r,.l,.l,.r,.l,.l,.l]
def B6 (P : PT) (N2 : NTy k1 Pr) (x1 : Value) (x2 : Nat) (x5 : Int) (H : AHeap) : Prop :=
  idxK x1 x5 1 (fun b1 o2 => ld1 H b1 o2 (fun v3 => ld1 H x2 1 (fun v4 => lenK v4 (fun n5 => AC Try.prog T0 84 [v3, (Value.int .i64 (n5 : Int))] H (fun v6 H7 => asI .i64 v6 (fun v8 => B5 P N2 x1 x2 x5 v8 H7))))))
theorem q6 (P : PT) (N2 : NTy k1 Pr) : QD Try.prog T0 27 o6 [(0, false), (1, false), (2, false), (3, false), (4, false), (5, false), (6, false), (7, false), (8, false)] (En 27 k3 (B5 P N2)) k1 (B6 P N2) := fun _ _ _ _ _  => by kernel_rfl
noncomputable def o7 := ob Try.f48 [.r,.r,.l,.r,.l,.l,.l,.l]
def B7 (P : PT) (N2 : NTy k1 Pr) (x1 : Value) (x2 : Nat) (x5 : Int) (H : AHeap) : Prop :=
  lenK x1 (fun n1 => pif (decide ((x5 : Int) < (n1 : Int))) (B6 P N2 x1 x2 x5 H) (B1 P H))
theorem q7 (P : PT) (N2 : NTy k1 Pr) : QB Try.prog T0 27 o7 (cnd 13 (En 27 k1 (B6 P N2)) (En 27 k0 (B1 P))) k1 (B7 P N2) := fun _ _ _ _ _  => by kernel_rfl
def L2 (P : PT) (x1 : Value) (x2 : Nat) (x5 : Int) (H : AHeap) : Prop :=
  ∃ (I : NTy k1 Pr) (μ : NTy k1 (AHeap → Nat)), I x1 x2 x5 H ∧ ∀ y1 y2 y5 G, I y1 y2 y5 G → B7 P (fun z1 z2 z5 G' => I z1 z2 z5 G' ∧ μ z1 z2 z5 G' < μ y1 y2 y5 G) y1 y2 y5 G
theorem l2 (P : PT) : LQ k1 (L2 P) (B7 P) := fun ⟨_,_,_,_⟩ _ ⟨I, μ, h0, hI⟩ => ⟨apT _ I, apT _ μ, h0, fun ⟨_,_,_,_⟩ _ h => hI _ _ _ _  h⟩
abbrev k4 : Sk := [(1,.v),(2,.x)]
noncomputable def o8 := ob Try.f48 [.r,.r,.l,.l]
def B8 (P : PT) (x1 : Value) (x2 : Nat) (H : AHeap) : Prop :=
  L2 P x1 x2 0 H
theorem q8 (P : PT) : QB Try.prog T0 27 o8 (En 27 k1 (L2 P)) k4 (B8 P) := fun _ _ _ _  => by kernel_rfl
noncomputable def o9 := ob Try.f48 [.r,.l,.r,.l,.l]
def B9 (P : PT) (H : AHeap) : Prop :=
  P (Value.int .i64 1) H
theorem q9 (P : PT) : QB Try.prog T0 27 o9 (ret P) k0 (B9 P) := fun _ _  => by kernel_rfl
noncomputable def o10 := ob Try.f48 [.r,.l,.l]
def B10 (P : PT) (x1 : Value) (x2 : Nat) (H : AHeap) : Prop :=
  ldI .i64 H x2 0 (fun v1 => ld1 H x2 1 (fun v2 => AC Try.prog T0 73 [(Value.agg ⟨[(Value.int .i64 v1), v2]⟩)] H (fun v3 H4 => asB v3 (fun v5 => pif (!v5) (B9 P H4) (B8 P x1 x2 H4)))))
theorem q10 (P : PT) : QB Try.prog T0 27 o10 (cnd 9 (En 27 k0 (B9 P)) (En 27 k4 (B8 P))) k4 (B10 P) := fun _ _ _ _  => by kernel_rfl
abbrev k5 : Sk := [(0,.g [.i,.v]),(1,.v)]
noncomputable def o11 := ob Try.f48 [.l]
def B11 (P : PT) (x0a : Int) (x0b x1 : Value) (H : AHeap) : Prop :=
  newK H [(Value.int .i64 x0a), x0b] 31 (fun b1 H2 => B10 P x1 b1 H2)
theorem q11 (P : PT) : QB Try.prog T0 27 o11 (En 27 k4 (B10 P)) k5 (B11 P) := fun _ _ _ _ _  => by kernel_rfl
noncomputable def code : Code := (.seq (.region 0 ⟨o11⟩ false) (.seq (.seq (.region 1 ⟨o10⟩ false) (.cond (.tmp 9) (.seq (.region 2 ⟨o9⟩ false) .ret) .skip)) (.seq (.seq (.region 3 ⟨o8⟩ false) (.block 0 (.loop (.seq (.seq (.region 4 ⟨o7⟩ false) (.cond (.tmp 13) .skip (.exit 0))) (.seq (.block 1 (.seq (.region 6 ⟨o6⟩ true) (.seq (.region 7 ⟨o5⟩ false) (.cond (.tmp 25) (.seq (.region 8 ⟨o4⟩ false) .ret) .skip)))) (.region 5 ⟨o3⟩ false)))))) (.seq (.region 9 ⟨o1⟩ false) .ret))))
theorem body : Try.f48.body = some code := by kernel_rfl
theorem main (P : PT) : ∀ env H, (En 27 k5 (B11 P)) env H → AW Try.prog T0 code env H (mkQ (ret P) (fun _ _ _ => False) (ret P)) :=
  (r_seq (rB T0_ok (q11 P)) (r_seq (r_seq (rB T0_ok (q10 P)) (r_cond rfl (r_seq (rB T0_ok (q9 P)) r_ret) r_skip)) (r_seq (r_seq (rB T0_ok (q8 P)) (r_block (rL (l2 P) (fun N2 => (r_seq (r_seq (rB T0_ok (q7 P N2)) (r_cond rfl r_skip (r_exit (fun _ _ h => h)))) (r_seq (r_block (r_seq (rD T0_ok mixed [(0, false), (1, false), (2, false), (3, false), (4, false), (5, false), (6, false), (7, false), (8, false)] (by kernel_rfl) (q6 P N2)) (r_seq (rB T0_ok (q5 P N2)) (r_cond rfl (r_seq (rB T0_ok (q4 P N2)) r_ret) r_skip)))) (rB T0_ok (q3 P N2)))))))) (r_seq (rB T0_ok (q1 P)) r_ret))))
theorem ac (P : PT) (x0a : Int) (x0b x1 : Value) (H : AHeap) (h : B11 P x0a x0b x1 H) : AC Try.prog T0 48 [(Value.agg ⟨[(Value.int .i64 x0a), x0b]⟩), x1] H P :=
  r_fn T0_ok (c := code) (n := 27) Try.func48 body (by kernel_rfl) (main P) (En_mk (x0a, x0b, x1, ()) (by kernel_rfl) ⟨by kernel_rfl, by kernel_rfl, trivial⟩ h)

end F48
-- loop.example/g01329/spec.l01In
namespace F49
noncomputable def ret (P : PT) : EP := retE T0 15 Try.f49 P
abbrev k0 : Sk := [(0,.i .i64),(1,.i .i64),(2,.i .i64)]
noncomputable def o1 := ob Try.f49 [.r,.l]
def B1 (P : PT) (x0 x1 x2 : Int) (H : AHeap) : Prop :=
  pif (decide ((x0 : Int) ≥ x1)) (P (Value.bool (decide ((x0 : Int) ≤ x2))) H) (P (Value.bool false) H)
theorem q1 (P : PT) : QB Try.prog T0 15 o1 (ret P) k0 (B1 P) := fun _ _ _ _ _  => by kernel_rfl
noncomputable def o2 := ob Try.f49 [.l]
def B2 (P : PT) (x0 x1 x2 : Int) (H : AHeap) : Prop :=
  B1 P x0 x1 x2 H
theorem q2 (P : PT) : QB Try.prog T0 15 o2 (En 15 k0 (B1 P)) k0 (B2 P) := fun _ _ _ _ _  => by kernel_rfl
noncomputable def code : Code := (.seq (.region 0 ⟨o2⟩ false) (.seq (.region 1 ⟨o1⟩ false) .ret))
theorem body : Try.f49.body = some code := by kernel_rfl
theorem main (P : PT) : ∀ env H, (En 15 k0 (B2 P)) env H → AW Try.prog T0 code env H (mkQ (ret P) (fun _ _ _ => False) (ret P)) :=
  (r_seq (rB T0_ok (q2 P)) (r_seq (rB T0_ok (q1 P)) r_ret))
theorem ac (P : PT) (x0 x1 x2 : Int) (H : AHeap) (h : B2 P x0 x1 x2 H) : AC Try.prog T0 49 [(Value.int .i64 x0), (Value.int .i64 x1), (Value.int .i64 x2)] H P :=
  r_fn T0_ok (c := code) (n := 15) Try.func49 body (by kernel_rfl) (main P) (En_mk (x0, x1, x2, ()) (by kernel_rfl) ⟨by kernel_rfl, by kernel_rfl, by kernel_rfl, trivial⟩ h)

end F49
-- loop.example/g01329/spec.l07Double
namespace F50
noncomputable def ret (P : PT) : EP := retE T0 58 Try.f50 P
abbrev k0 : Sk := []
noncomputable def o1 := ob Try.f50 [.r,.r,.r,.r,.l]
def B1 (P : PT) (H : AHeap) : Prop :=
  P (Value.bool true) H
theorem q1 (P : PT) : QB Try.prog T0 58 o1 (ret P) k0 (B1 P) := fun _ _  => by kernel_rfl
abbrev k1 : Sk := [(5,.v),(8,.i .i64)]
noncomputable def o3 := ob Try.f50 [.r,.r,.r,.l,.r,.l,.l,.r,.r]
def B3 (P : PT) (N2 : NTy k1 Pr) (x5 : Value) (x8 : Int) (H : AHeap) : Prop :=
  N2 x5 (IntKind.i64.wrap (x8 + 1)) H
theorem q3 (P : PT) (N2 : NTy k1 Pr) : QB Try.prog T0 58 o3 (En 58 k1 N2) k1 (B3 P N2) := fun _ _ _ _  => by kernel_rfl
noncomputable def o4 := ob Try.f50 [.r,.r,.r,.l,.r,.l,.l,.r,.l,.l,.r,.l,.l]
def B4 (P : PT) (N2 : NTy k1 Pr) (H : AHeap) : Prop :=
  P (Value.bool false) H
theorem q4 (P : PT) (N2 : NTy k1 Pr) : QB Try.prog T0 58 o4 (ret P) k0 (B4 P N2) := fun _ _  => by kernel_rfl
noncomputable def o5 := ob Try.f50 [.r,.r,.r,.l,.r,.l,.l,.r,.l,.l,.l]
def B5 (P : PT) (N2 : NTy k1 Pr) (x5 : Value) (x8 : Int) (H : AHeap) : Prop :=
  idxK x5 x8 1 (fun b1 o2 => ldI .i64 H b1 o2 (fun v3 => pif ((v3 : Int) != 2) (B4 P N2 H) (B3 P N2 x5 x8 H)))
theorem q5 (P : PT) (N2 : NTy k1 Pr) : QB Try.prog T0 58 o5 (cnd 57 (En 58 k0 (B4 P N2)) (En 58 k1 (B3 P N2))) k1 (B5 P N2) := fun _ _ _ _  => by kernel_rfl
noncomputable def o6 := ob Try.f50 [.r,.r,.r,.l,.r,.l,.l,.l,.l]
def B6 (P : PT) (N2 : NTy k1 Pr) (x5 : Value) (x8 : Int) (H : AHeap) : Prop :=
  lenK x5 (fun n1 => pif (decide ((x8 : Int) < (n1 : Int))) (B5 P N2 x5 x8 H) (B1 P H))
theorem q6 (P : PT) (N2 : NTy k1 Pr) : QB Try.prog T0 58 o6 (cnd 50 (En 58 k1 (B5 P N2)) (En 58 k0 (B1 P))) k1 (B6 P N2) := fun _ _ _ _  => by kernel_rfl
def L2 (P : PT) (x5 : Value) (x8 : Int) (H : AHeap) : Prop :=
  ∃ (I : NTy k1 Pr) (μ : NTy k1 (AHeap → Nat)), I x5 x8 H ∧ ∀ y5 y8 G, I y5 y8 G → B6 P (fun z5 z8 G' => I z5 z8 G' ∧ μ z5 z8 G' < μ y5 y8 G) y5 y8 G
theorem l2 (P : PT) : LQ k1 (L2 P) (B6 P) := fun ⟨_,_,_⟩ _ ⟨I, μ, h0, hI⟩ => ⟨apT _ I, apT _ μ, h0, fun ⟨_,_,_⟩ _ h => hI _ _ _  h⟩
abbrev k2 : Sk := [(5,.v)]
noncomputable def o7 := ob Try.f50 [.r,.r,.r,.l,.l]
def B7 (P : PT) (x5 : Value) (H : AHeap) : Prop :=
  L2 P x5 0 H
theorem q7 (P : PT) : QB Try.prog T0 58 o7 (En 58 k1 (L2 P)) k2 (B7 P) := fun _ _ _  => by kernel_rfl
abbrev k3 : Sk := [(1,.v),(2,.x),(5,.v),(6,.i .i64)]
noncomputable def o9 := ob Try.f50 [.r,.r,.l,.r,.l,.l,.r,.r]
def B9 (P : PT) (N8 : NTy k3 Pr) (x1 : Value) (x2 : Nat) (x5 : Value) (x6 : Int) (H : AHeap) : Prop :=
  N8 x1 x2 x5 (IntKind.i64.wrap (x6 + 1)) H
theorem q9 (P : PT) (N8 : NTy k3 Pr) : QB Try.prog T0 58 o9 (En 58 k3 N8) k3 (B9 P N8) := fun _ _ _ _ _ _  => by kernel_rfl
abbrev k4 : Sk := [(1,.v),(2,.x),(5,.v),(6,.i .i64),(7,.i .i64)]
noncomputable def o11 := ob Try.f50 [.r,.r,.l,.r,.l,.l,.r,.l,.l,.r,.r,.l,.l,.r,.r]
def B11 (P : PT) (N8 : NTy k3 Pr) (N10 : NTy k4 Pr) (x1 : Value) (x2 : Nat) (x5 : Value) (x6 x7 : Int) (H : AHeap) : Prop :=
  N10 x1 x2 x5 x6 (IntKind.i64.wrap (x7 + 1)) H
theorem q11 (P : PT) (N8 : NTy k3 Pr) (N10 : NTy k4 Pr) : QB Try.prog T0 58 o11 (En 58 k4 N10) k4 (B11 P N8 N10) := fun _ _ _ _ _ _ _  => by kernel_rfl
noncomputable def o12 := ob Try.f50 [.r,.r,.l,.r,.l,.l,.r,.l,.l,.r,.r,.l,.l,.r,.l,.l]
def B12 (P : PT) (N8 : NTy k3 Pr) (N10 : NTy k4 Pr) (x1 : Value) (x2 : Nat) (x5 : Value) (x6 x7 : Int) (H : AHeap) : Prop :=
  idxK x1 x6 1 (fun b1 o2 => ld1 H b1 o2 (fun v3 => idxK v3 x7 1 (fun b4 o5 => ldI .i64 H b4 o5 (fun v6 => idxK x5 v6 1 (fun b7 o8 => ldI .i64 H b7 o8 (fun v9 => idxK x5 v6 1 (fun b10 o11 => stK H b10 o11 [(Value.int .i64 (IntKind.i64.wrap (v9 + 1)))] (fun H12 => B11 P N8 N10 x1 x2 x5 x6 x7 H12))))))))
theorem q12 (P : PT) (N8 : NTy k3 Pr) (N10 : NTy k4 Pr) : QB Try.prog T0 58 o12 (En 58 k4 (B11 P N8 N10)) k4 (B12 P N8 N10) := fun _ _ _ _ _ _ _  => by kernel_rfl
noncomputable def o13 := ob Try.f50 [.r,.r,.l,.r,.l,.l,.r,.l,.l,.r,.r,.l,.l,.l,.l]
def B13 (P : PT) (N8 : NTy k3 Pr) (N10 : NTy k4 Pr) (x1 : Value) (x2 : Nat) (x5 : Value) (x6 x7 : Int) (H : AHeap) : Prop :=
  idxK x1 x6 1 (fun b1 o2 => ld1 H b1 o2 (fun v3 => lenK v3 (fun n4 => pif (decide ((x7 : Int) < (n4 : Int))) (B12 P N8 N10 x1 x2 x5 x6 x7 H) (B9 P N8 x1 x2 x5 x6 H))))
theorem q13 (P : PT) (N8 : NTy k3 Pr) (N10 : NTy k4 Pr) : QB Try.prog T0 58 o13 (cnd 32 (En 58 k4 (B12 P N8 N10)) (En 58 k3 (B9 P N8))) k4 (B13 P N8 N10) := fun _ _ _ _ _ _ _  => by kernel_rfl
def L10 (P : PT) (N8 : NTy k3 Pr) (x1 : Value) (x2 : Nat) (x5 : Value) (x6 x7 : Int) (H : AHeap) : Prop :=
  ∃ (I : NTy k4 Pr) (μ : NTy k4 (AHeap → Nat)), I x1 x2 x5 x6 x7 H ∧ ∀ y1 y2 y5 y6 y7 G, I y1 y2 y5 y6 y7 G → B13 P N8 (fun z1 z2 z5 z6 z7 G' => I z1 z2 z5 z6 z7 G' ∧ μ z1 z2 z5 z6 z7 G' < μ y1 y2 y5 y6 y7 G) y1 y2 y5 y6 y7 G
theorem l10 (P : PT) (N8 : NTy k3 Pr) : LQ k4 (L10 P N8) (B13 P N8) := fun ⟨_,_,_,_,_,_⟩ _ ⟨I, μ, h0, hI⟩ => ⟨apT _ I, apT _ μ, h0, fun ⟨_,_,_,_,_,_⟩ _ h => hI _ _ _ _ _ _  h⟩
noncomputable def o14 := ob Try.f50 [.r,.r,.l,.r,.l,.l,.r,.l,.l,.r,.l]
def B14 (P : PT) (N8 : NTy k3 Pr) (x1 : Value) (x2 : Nat) (x5 : Value) (x6 : Int) (H : AHeap) : Prop :=
  L10 P N8 x1 x2 x5 x6 0 H
theorem q14 (P : PT) (N8 : NTy k3 Pr) : QB Try.prog T0 58 o14 (En 58 k4 (L10 P N8)) k3 (B14 P N8) := fun _ _ _ _ _ _  => by kernel_rfl
noncomputable def o15 := ob Try.f50 [.r,.r,.l,.r,.l,.l,.r,.l,.l,.l,.r,.l,.l]
def B15 (P : PT) (N8 : NTy k3 Pr) (H : AHeap) : Prop :=
  P (Value.bool false) H
theorem q15 (P : PT) (N8 : NTy k3 Pr) : QB Try.prog T0 58 o15 (ret P) k0 (B15 P N8) := fun _ _  => by kernel_rfl
noncomputable def o16 := ob Try.f50 [.r,.r,.l,.r,.l,.l,.r,.l,.l,.l,.l]
def B16 (P : PT) (N8 : NTy k3 Pr) (x1 : Value) (x2 : Nat) (x5 : Value) (x6 : Int) (H : AHeap) : Prop :=
  ldI .i64 H x2 0 (fun v1 => ld1 H x2 1 (fun v2 => idxK x1 x6 1 (fun b3 o4 => ld1 H b3 o4 (fun v5 => AC Try.prog T0 85 [(Value.agg ⟨[(Value.int .i64 v1), v2]⟩), v5] H (fun v6 H7 => asB v6 (fun v8 => pif (!v8) (B15 P N8 H7) (B14 P N8 x1 x2 x5 x6 H7)))))))
theorem q16 (P : PT) (N8 : NTy k3 Pr) : QD Try.prog T0 58 o16 [(0, false), (1, false), (2, false), (3, false), (4, false), (5, false), (6, false)] (cnd 25 (En 58 k0 (B15 P N8)) (En 58 k3 (B14 P N8))) k3 (B16 P N8) := fun _ _ _ _ _ _  => by kernel_rfl
noncomputable def o17 := ob Try.f50 [.r,.r,.l,.r,.l,.l,.l,.l]
def B17 (P : PT) (N8 : NTy k3 Pr) (x1 : Value) (x2 : Nat) (x5 : Value) (x6 : Int) (H : AHeap) : Prop :=
  lenK x1 (fun n1 => pif (decide ((x6 : Int) < (n1 : Int))) (B16 P N8 x1 x2 x5 x6 H) (B7 P x5 H))
theorem q17 (P : PT) (N8 : NTy k3 Pr) : QB Try.prog T0 58 o17 (cnd 16 (En 58 k3 (B16 P N8)) (En 58 k2 (B7 P))) k3 (B17 P N8) := fun _ _ _ _ _ _  => by kernel_rfl
def L8 (P : PT) (x1 : Value) (x2 : Nat) (x5 : Value) (x6 : Int) (H : AHeap) : Prop :=
  ∃ (I : NTy k3 Pr) (μ : NTy k3 (AHeap → Nat)), I x1 x2 x5 x6 H ∧ ∀ y1 y2 y5 y6 G, I y1 y2 y5 y6 G → B17 P (fun z1 z2 z5 z6 G' => I z1 z2 z5 z6 G' ∧ μ z1 z2 z5 z6 G' < μ y1 y2 y5 y6 G) y1 y2 y5 y6 G
theorem l8 (P : PT) : LQ k3 (L8 P) (B17 P) := fun ⟨_,_,_,_,_⟩ _ ⟨I, μ, h0, hI⟩ => ⟨apT _ I, apT _ μ, h0, fun ⟨_,_,_,_,_⟩ _ h => hI _ _ _ _ _  h⟩
abbrev k5 : Sk := [(1,.v),(2,.x),(5,.v)]
noncomputable def o18 := ob Try.f50 [.r,.r,.l,.l]
def B18 (P : PT) (x1 : Value) (x2 : Nat) (x5 : Value) (H : AHeap) : Prop :=
  L8 P x1 x2 x5 0 H
theorem q18 (P : PT) : QB Try.prog T0 58 o18 (En 58 k3 (L8 P)) k5 (B18 P) := fun _ _ _ _ _  => by kernel_rfl
abbrev k6 : Sk := [(1,.v),(2,.x)]
noncomputable def o19 := ob Try.f50 [.r,.l]
def B19 (P : PT) (x1 : Value) (x2 : Nat) (H : AHeap) : Prop :=
  ld1 H x2 1 (fun v1 => lenK v1 (fun n2 => mkR H 8 2 [(Value.int .i64 0)] (n2 : Int) (n2 : Int) (fun v4 H3 => B18 P x1 x2 v4 H3)))
theorem q19 (P : PT) : QB Try.prog T0 58 o19 (En 58 k5 (B18 P)) k6 (B19 P) := fun _ _ _ _  => by kernel_rfl
abbrev k7 : Sk := [(0,.g [.i,.v]),(1,.v)]
noncomputable def o20 := ob Try.f50 [.l]
def B20 (P : PT) (x0a : Int) (x0b x1 : Value) (H : AHeap) : Prop :=
  newK H [(Value.int .i64 x0a), x0b] 31 (fun b1 H2 => B19 P x1 b1 H2)
theorem q20 (P : PT) : QB Try.prog T0 58 o20 (En 58 k6 (B19 P)) k7 (B20 P) := fun _ _ _ _ _  => by kernel_rfl
noncomputable def code : Code := (.seq (.region 0 ⟨o20⟩ false) (.seq (.region 1 ⟨o19⟩ false) (.seq (.seq (.region 2 ⟨o18⟩ false) (.block 0 (.loop (.seq (.seq (.region 3 ⟨o17⟩ false) (.cond (.tmp 16) .skip (.exit 0))) (.seq (.block 1 (.seq (.seq (.region 5 ⟨o16⟩ true) (.cond (.tmp 25) (.seq (.region 6 ⟨o15⟩ false) .ret) .skip)) (.seq (.region 7 ⟨o14⟩ false) (.block 2 (.loop (.seq (.seq (.region 8 ⟨o13⟩ false) (.cond (.tmp 32) .skip (.exit 2))) (.seq (.block 3 (.region 10 ⟨o12⟩ false)) (.region 9 ⟨o11⟩ false)))))))) (.region 4 ⟨o9⟩ false)))))) (.seq (.seq (.region 11 ⟨o7⟩ false) (.block 4 (.loop (.seq (.seq (.region 12 ⟨o6⟩ false) (.cond (.tmp 50) .skip (.exit 4))) (.seq (.block 5 (.seq (.region 14 ⟨o5⟩ false) (.cond (.tmp 57) (.seq (.region 15 ⟨o4⟩ false) .ret) .skip))) (.region 13 ⟨o3⟩ false)))))) (.seq (.region 16 ⟨o1⟩ false) .ret)))))
theorem body : Try.f50.body = some code := by kernel_rfl
theorem main (P : PT) : ∀ env H, (En 58 k7 (B20 P)) env H → AW Try.prog T0 code env H (mkQ (ret P) (fun _ _ _ => False) (ret P)) :=
  (r_seq (rB T0_ok (q20 P)) (r_seq (rB T0_ok (q19 P)) (r_seq (r_seq (rB T0_ok (q18 P)) (r_block (rL (l8 P) (fun N8 => (r_seq (r_seq (rB T0_ok (q17 P N8)) (r_cond rfl r_skip (r_exit (fun _ _ h => h)))) (r_seq (r_block (r_seq (r_seq (rD T0_ok mixed [(0, false), (1, false), (2, false), (3, false), (4, false), (5, false), (6, false)] (by kernel_rfl) (q16 P N8)) (r_cond rfl (r_seq (rB T0_ok (q15 P N8)) r_ret) r_skip)) (r_seq (rB T0_ok (q14 P N8)) (r_block (rL (l10 P N8) (fun N10 => (r_seq (r_seq (rB T0_ok (q13 P N8 N10)) (r_cond rfl r_skip (r_exit (fun _ _ h => h)))) (r_seq (r_block (rB T0_ok (q12 P N8 N10))) (rB T0_ok (q11 P N8 N10)))))))))) (rB T0_ok (q9 P N8)))))))) (r_seq (r_seq (rB T0_ok (q7 P)) (r_block (rL (l2 P) (fun N2 => (r_seq (r_seq (rB T0_ok (q6 P N2)) (r_cond rfl r_skip (r_exit (fun _ _ h => h)))) (r_seq (r_block (r_seq (rB T0_ok (q5 P N2)) (r_cond rfl (r_seq (rB T0_ok (q4 P N2)) r_ret) r_skip))) (rB T0_ok (q3 P N2)))))))) (r_seq (rB T0_ok (q1 P)) r_ret)))))
theorem ac (P : PT) (x0a : Int) (x0b x1 : Value) (H : AHeap) (h : B20 P x0a x0b x1 H) : AC Try.prog T0 50 [(Value.agg ⟨[(Value.int .i64 x0a), x0b]⟩), x1] H P :=
  r_fn T0_ok (c := code) (n := 58) Try.func50 body (by kernel_rfl) (main P) (En_mk (x0a, x0b, x1, ()) (by kernel_rfl) ⟨by kernel_rfl, by kernel_rfl, trivial⟩ h)

end F50
-- loop.example/g01329/spec.l07Forward
namespace F51
noncomputable def ret (P : PT) : EP := retE T0 70 Try.f51 P
abbrev k0 : Sk := [(1,.v),(2,.x),(5,.v),(6,.i .i64),(7,.i .i64)]
abbrev k1 : Sk := [(1,.v),(2,.x),(5,.v),(6,.i .i64),(7,.i .i64),(8,.i .i64)]
noncomputable def o3 := ob Try.f51 [.r,.r,.r,.r,.l,.l,.l,.r,.l,.l,.r,.r]
def B3 (P : PT) (N1 : NTy k0 Pr) (N2 : NTy k1 Pr) (x1 : Value) (x2 : Nat) (x5 : Value) (x6 x7 x8 : Int) (H : AHeap) : Prop :=
  N2 x1 x2 x5 x6 x7 (IntKind.i64.wrap (x8 + 1)) H
theorem q3 (P : PT) (N1 : NTy k0 Pr) (N2 : NTy k1 Pr) : QB Try.prog T0 70 o3 (En 70 k1 N2) k1 (B3 P N1 N2) := fun _ _ _ _ _ _ _ _  => by kernel_rfl
abbrev k2 : Sk := [(1,.v),(2,.x),(5,.v),(6,.i .i64),(8,.i .i64)]
noncomputable def o4 := ob Try.f51 [.r,.r,.r,.r,.l,.l,.l,.r,.l,.l,.r,.l,.l,.r,.r,.l,.r,.r,.r,.l]
def B4 (P : PT) (N1 : NTy k0 Pr) (N2 : NTy k1 Pr) (x1 : Value) (x2 : Nat) (x5 : Value) (x6 x8 : Int) (H : AHeap) : Prop :=
  N1 x1 x2 x5 x6 x8 H
theorem q4 (P : PT) (N1 : NTy k0 Pr) (N2 : NTy k1 Pr) : QB Try.prog T0 70 o4 (En 70 k0 N1) k2 (B4 P N1 N2) := fun _ _ _ _ _ _ _  => by kernel_rfl
abbrev k3 : Sk := [(1,.v),(2,.x),(5,.v),(6,.i .i64),(8,.i .i64),(9,.x)]
noncomputable def o5 := ob Try.f51 [.r,.r,.r,.r,.l,.l,.l,.r,.l,.l,.r,.l,.l,.r,.r,.l,.r,.r,.l]
def B5 (P : PT) (N1 : NTy k0 Pr) (N2 : NTy k1 Pr) (x1 : Value) (x2 : Nat) (x5 : Value) (x6 x8 : Int) (x9 : Nat) (H : AHeap) : Prop :=
  ldI .i64 H x9 0 (fun v1 => ldI .i64 H x9 1 (fun v2 => B4 P N1 N2 x1 x2 x5 (IntKind.i64.wrap ((IntKind.i64.wrap (v1 + v2)) - x6)) x8 H))
theorem q5 (P : PT) (N1 : NTy k0 Pr) (N2 : NTy k1 Pr) : QB Try.prog T0 70 o5 (En 70 k2 (B4 P N1 N2)) k3 (B5 P N1 N2) := fun _ _ _ _ _ _ _ _  => by kernel_rfl
noncomputable def o6 := ob Try.f51 [.r,.r,.r,.r,.l,.l,.l,.r,.l,.l,.r,.l,.l,.r,.r,.l,.r,.l]
def B6 (P : PT) (N1 : NTy k0 Pr) (N2 : NTy k1 Pr) (x1 : Value) (x2 : Nat) (x5 : Value) (x6 x8 : Int) (x9 : Nat) (H : AHeap) : Prop :=
  ldI .i64 H x9 0 (fun v1 => idxK x5 x8 1 (fun b2 o3 => stK H b2 o3 [(Value.bool ((v1 : Int) == x6))] (fun H4 => B5 P N1 N2 x1 x2 x5 x6 x8 x9 H4)))
theorem q6 (P : PT) (N1 : NTy k0 Pr) (N2 : NTy k1 Pr) : QB Try.prog T0 70 o6 (En 70 k3 (B5 P N1 N2)) k3 (B6 P N1 N2) := fun _ _ _ _ _ _ _ _  => by kernel_rfl
abbrev k4 : Sk := [(5,.v)]
noncomputable def o7 := ob Try.f51 [.r,.r,.r,.r,.l,.l,.l,.r,.l,.l,.r,.l,.l,.r,.r,.l,.l,.r,.l,.l]
def B7 (P : PT) (N1 : NTy k0 Pr) (N2 : NTy k1 Pr) (x5 : Value) (H : AHeap) : Prop :=
  P x5 H
theorem q7 (P : PT) (N1 : NTy k0 Pr) (N2 : NTy k1 Pr) : QB Try.prog T0 70 o7 (ret P) k4 (B7 P N1 N2) := fun _ _ _  => by kernel_rfl
noncomputable def o8 := ob Try.f51 [.r,.r,.r,.r,.l,.l,.l,.r,.l,.l,.r,.l,.l,.r,.r,.l,.l,.l]
def B8 (P : PT) (N1 : NTy k0 Pr) (N2 : NTy k1 Pr) (x1 : Value) (x2 : Nat) (x5 : Value) (x6 x8 : Int) (x9 : Nat) (H : AHeap) : Prop :=
  pif ((x8 : Int) == 0) (B7 P N1 N2 x5 H) (B6 P N1 N2 x1 x2 x5 x6 x8 x9 H)
theorem q8 (P : PT) (N1 : NTy k0 Pr) (N2 : NTy k1 Pr) : QB Try.prog T0 70 o8 (cnd 53 (En 70 k4 (B7 P N1 N2)) (En 70 k3 (B6 P N1 N2))) k3 (B8 P N1 N2) := fun _ _ _ _ _ _ _ _  => by kernel_rfl
abbrev k5 : Sk := [(1,.v),(2,.x),(5,.v),(6,.i .i64),(7,.i .i64),(8,.i .i64),(9,.x)]
noncomputable def o9 := ob Try.f51 [.r,.r,.r,.r,.l,.l,.l,.r,.l,.l,.r,.l,.l,.r,.l]
def B9 (P : PT) (N1 : NTy k0 Pr) (N2 : NTy k1 Pr) (x1 : Value) (x2 : Nat) (x5 : Value) (x6 x7 x8 : Int) (x9 : Nat) (H : AHeap) : Prop :=
  pif ((x8 : Int) != x7) (ldI .i64 H x9 0 (fun v1 => pif ((v1 : Int) == x6) (B8 P N1 N2 x1 x2 x5 x6 x8 x9 H) (ldI .i64 H x9 1 (fun v2 => pif ((v2 : Int) == x6) (B8 P N1 N2 x1 x2 x5 x6 x8 x9 H) (B3 P N1 N2 x1 x2 x5 x6 x7 x8 H))))) (B3 P N1 N2 x1 x2 x5 x6 x7 x8 H)
theorem q9 (P : PT) (N1 : NTy k0 Pr) (N2 : NTy k1 Pr) : QB Try.prog T0 70 o9 (cnd 51 (En 70 k3 (B8 P N1 N2)) (En 70 k1 (B3 P N1 N2))) k5 (B9 P N1 N2) := fun _ _ _ _ _ _ _ _ _  => by kernel_rfl
noncomputable def o10 := ob Try.f51 [.r,.r,.r,.r,.l,.l,.l,.r,.l,.l,.r,.l,.l,.l]
def B10 (P : PT) (N1 : NTy k0 Pr) (N2 : NTy k1 Pr) (x1 : Value) (x2 : Nat) (x5 : Value) (x6 x7 x8 : Int) (H : AHeap) : Prop :=
  ld1 H x2 1 (fun v1 => idxK x1 x8 1 (fun b2 o3 => ldI .i64 H b2 o3 (fun v4 => idxK v1 v4 2 (fun b5 o6 => ldI .i64 H b5 o6 (fun v7 => ldI .i64 H b5 (o6 + 1) (fun v8 => newK H [(Value.int .i64 0), (Value.int .i64 0)] 67 (fun b9 H10 => stK H10 b9 0 [(Value.int .i64 v7), (Value.int .i64 v8)] (fun H11 => B9 P N1 N2 x1 x2 x5 x6 x7 x8 b9 H11))))))))
theorem q10 (P : PT) (N1 : NTy k0 Pr) (N2 : NTy k1 Pr) : QD Try.prog T0 70 o10 [(0, false), (1, false), (2, false), (3, false), (4, false), (5, false), (6, false), (7, false), (8, false), (9, false)] (En 70 k5 (B9 P N1 N2)) k1 (B10 P N1 N2) := fun _ _ _ _ _ _ _ _  => by kernel_rfl
noncomputable def o11 := ob Try.f51 [.r,.r,.r,.r,.l,.l,.l,.r,.l,.l,.l,.l]
def B11 (P : PT) (N1 : NTy k0 Pr) (N2 : NTy k1 Pr) (x1 : Value) (x2 : Nat) (x5 : Value) (x6 x7 x8 : Int) (H : AHeap) : Prop :=
  lenK x1 (fun n1 => pif (decide ((x8 : Int) < (n1 : Int))) (B10 P N1 N2 x1 x2 x5 x6 x7 x8 H) (N1 x1 x2 x5 x6 x7 H))
theorem q11 (P : PT) (N1 : NTy k0 Pr) (N2 : NTy k1 Pr) : QB Try.prog T0 70 o11 (cnd 26 (En 70 k1 (B10 P N1 N2)) (En 70 k0 N1)) k1 (B11 P N1 N2) := fun _ _ _ _ _ _ _ _  => by kernel_rfl
def L2 (P : PT) (N1 : NTy k0 Pr) (x1 : Value) (x2 : Nat) (x5 : Value) (x6 x7 x8 : Int) (H : AHeap) : Prop :=
  ∃ (I : NTy k1 Pr) (μ : NTy k1 (AHeap → Nat)), I x1 x2 x5 x6 x7 x8 H ∧ ∀ y1 y2 y5 y6 y7 y8 G, I y1 y2 y5 y6 y7 y8 G → B11 P N1 (fun z1 z2 z5 z6 z7 z8 G' => I z1 z2 z5 z6 z7 z8 G' ∧ μ z1 z2 z5 z6 z7 z8 G' < μ y1 y2 y5 y6 y7 y8 G) y1 y2 y5 y6 y7 y8 G
theorem l2 (P : PT) (N1 : NTy k0 Pr) : LQ k1 (L2 P N1) (B11 P N1) := fun ⟨_,_,_,_,_,_,_⟩ _ ⟨I, μ, h0, hI⟩ => ⟨apT _ I, apT _ μ, h0, fun ⟨_,_,_,_,_,_,_⟩ _ h => hI _ _ _ _ _ _ _  h⟩
noncomputable def o12 := ob Try.f51 [.r,.r,.r,.r,.l,.l,.l,.l]
def B12 (P : PT) (N1 : NTy k0 Pr) (x1 : Value) (x2 : Nat) (x5 : Value) (x6 x7 : Int) (H : AHeap) : Prop :=
  L2 P N1 x1 x2 x5 x6 x7 0 H
theorem q12 (P : PT) (N1 : NTy k0 Pr) : QB Try.prog T0 70 o12 (En 70 k1 (L2 P N1)) k0 (B12 P N1) := fun _ _ _ _ _ _ _  => by kernel_rfl
def L1 (P : PT) (x1 : Value) (x2 : Nat) (x5 : Value) (x6 x7 : Int) (H : AHeap) : Prop :=
  ∃ (I : NTy k0 Pr) (μ : NTy k0 (AHeap → Nat)), I x1 x2 x5 x6 x7 H ∧ ∀ y1 y2 y5 y6 y7 G, I y1 y2 y5 y6 y7 G → B12 P (fun z1 z2 z5 z6 z7 G' => I z1 z2 z5 z6 z7 G' ∧ μ z1 z2 z5 z6 z7 G' < μ y1 y2 y5 y6 y7 G) y1 y2 y5 y6 y7 G
theorem l1 (P : PT) : LQ k0 (L1 P) (B12 P) := fun ⟨_,_,_,_,_,_⟩ _ ⟨I, μ, h0, hI⟩ => ⟨apT _ I, apT _ μ, h0, fun ⟨_,_,_,_,_,_⟩ _ h => hI _ _ _ _ _ _  h⟩
abbrev k6 : Sk := [(1,.v),(2,.x),(5,.v)]
noncomputable def o13 := ob Try.f51 [.r,.r,.r,.l]
def B13 (P : PT) (x1 : Value) (x2 : Nat) (x5 : Value) (H : AHeap) : Prop :=
  ld1 H x2 1 (fun v1 => idxK x1 0 1 (fun b2 o3 => ldI .i64 H b2 o3 (fun v4 => idxK v1 v4 2 (fun b5 o6 => ldI .i64 H b5 (o6 + 1) (fun v7 => L1 P x1 x2 x5 v7 0 H)))))
theorem q13 (P : PT) : QD Try.prog T0 70 o13 [(0, false), (1, false), (2, false), (3, false), (4, false), (5, false), (6, false), (7, false), (8, false), (9, false)] (En 70 k0 (L1 P)) k6 (B13 P) := fun _ _ _ _ _  => by kernel_rfl
noncomputable def o14 := ob Try.f51 [.r,.r,.l]
def B14 (P : PT) (x1 : Value) (x2 : Nat) (x5 : Value) (H : AHeap) : Prop :=
  idxK x5 0 1 (fun b1 o2 => stK H b1 o2 [(Value.bool true)] (fun H3 => B13 P x1 x2 x5 H3))
theorem q14 (P : PT) : QB Try.prog T0 70 o14 (En 70 k6 (B13 P)) k6 (B14 P) := fun _ _ _ _ _  => by kernel_rfl
abbrev k7 : Sk := [(1,.v),(2,.x)]
noncomputable def o15 := ob Try.f51 [.r,.l]
def B15 (P : PT) (x1 : Value) (x2 : Nat) (H : AHeap) : Prop :=
  lenK x1 (fun n1 => mkR H 1 4 [(Value.bool false)] (n1 : Int) (n1 : Int) (fun v3 H2 => B14 P x1 x2 v3 H2))
theorem q15 (P : PT) : QB Try.prog T0 70 o15 (En 70 k6 (B14 P)) k7 (B15 P) := fun _ _ _ _  => by kernel_rfl
abbrev k8 : Sk := [(0,.g [.i,.v]),(1,.v)]
noncomputable def o16 := ob Try.f51 [.l]
def B16 (P : PT) (x0a : Int) (x0b x1 : Value) (H : AHeap) : Prop :=
  newK H [(Value.int .i64 x0a), x0b] 31 (fun b1 H2 => B15 P x1 b1 H2)
theorem q16 (P : PT) : QB Try.prog T0 70 o16 (En 70 k7 (B15 P)) k8 (B16 P) := fun _ _ _ _ _  => by kernel_rfl
noncomputable def code : Code := (.seq (.region 0 ⟨o16⟩ false) (.seq (.region 1 ⟨o15⟩ false) (.seq (.region 2 ⟨o14⟩ false) (.seq (.region 3 ⟨o13⟩ true) (.block 0 (.loop (.block 1 (.seq (.region 4 ⟨o12⟩ false) (.block 2 (.loop (.seq (.seq (.region 5 ⟨o11⟩ false) (.cond (.tmp 26) .skip (.exit 2))) (.seq (.block 3 (.seq (.region 7 ⟨o10⟩ true) (.seq (.region 8 ⟨o9⟩ false) (.cond (.tmp 51) (.seq (.seq (.region 9 ⟨o8⟩ false) (.cond (.tmp 53) (.seq (.region 10 ⟨o7⟩ false) .ret) .skip)) (.seq (.region 11 ⟨o6⟩ false) (.seq (.region 12 ⟨o5⟩ false) (.seq (.region 13 ⟨o4⟩ false) (.exit 2))))) .skip)))) (.region 6 ⟨o3⟩ false)))))))))))))
theorem body : Try.f51.body = some code := by kernel_rfl
theorem main (P : PT) : ∀ env H, (En 70 k8 (B16 P)) env H → AW Try.prog T0 code env H (mkQ (ret P) (fun _ _ _ => False) (ret P)) :=
  (r_seq (rB T0_ok (q16 P)) (r_seq (rB T0_ok (q15 P)) (r_seq (rB T0_ok (q14 P)) (r_seq (rD T0_ok mixed [(0, false), (1, false), (2, false), (3, false), (4, false), (5, false), (6, false), (7, false), (8, false), (9, false)] (by kernel_rfl) (q13 P)) (r_block (rL (l1 P) (fun N1 => (r_block (r_seq (rB T0_ok (q12 P N1)) (r_block (rL (l2 P N1) (fun N2 => (r_seq (r_seq (rB T0_ok (q11 P N1 N2)) (r_cond rfl r_skip (r_exit (fun _ _ h => h)))) (r_seq (r_block (r_seq (rD T0_ok mixed [(0, false), (1, false), (2, false), (3, false), (4, false), (5, false), (6, false), (7, false), (8, false), (9, false)] (by kernel_rfl) (q10 P N1 N2)) (r_seq (rB T0_ok (q9 P N1 N2)) (r_cond rfl (r_seq (r_seq (rB T0_ok (q8 P N1 N2)) (r_cond rfl (r_seq (rB T0_ok (q7 P N1 N2)) r_ret) r_skip)) (r_seq (rB T0_ok (q6 P N1 N2)) (r_seq (rB T0_ok (q5 P N1 N2)) (r_seq (rB T0_ok (q4 P N1 N2)) (r_exit (fun _ _ h => h)))))) r_skip)))) (rB T0_ok (q3 P N1 N2))))))))))))))))
theorem ac (P : PT) (x0a : Int) (x0b x1 : Value) (H : AHeap) (h : B16 P x0a x0b x1 H) : AC Try.prog T0 51 [(Value.agg ⟨[(Value.int .i64 x0a), x0b]⟩), x1] H P :=
  r_fn T0_ok (c := code) (n := 70) Try.func51 body (by kernel_rfl) (main P) (En_mk (x0a, x0b, x1, ()) (by kernel_rfl) ⟨by kernel_rfl, by kernel_rfl, trivial⟩ h)

end F51
-- loop.example/g01329/impl.IsOrientedBy$1
namespace F52
noncomputable def ret (P : PT) : EP := retE T0 5 Try.f52 P
abbrev k0 : Sk := [(0,.i .i64)]
noncomputable def o1 := ob Try.f52 [.r,.l]
def B1 (P : PT) (x0 : Int) (H : AHeap) : Prop :=
  AC Try.prog T0 53 [(Value.int .i64 x0), (Value.int .i64 0), (Value.int .i64 1)] H (fun v1 H2 => asB v1 (fun v3 => P (Value.bool v3) H2))
theorem q1 (P : PT) : QB Try.prog T0 5 o1 (ret P) k0 (B1 P) := fun _ _ _  => by kernel_rfl
noncomputable def o2 := ob Try.f52 [.l]
def B2 (P : PT) (x0 : Int) (H : AHeap) : Prop :=
  B1 P x0 H
theorem q2 (P : PT) : QB Try.prog T0 5 o2 (En 5 k0 (B1 P)) k0 (B2 P) := fun _ _ _  => by kernel_rfl
noncomputable def code : Code := (.seq (.region 0 ⟨o2⟩ false) (.seq (.region 1 ⟨o1⟩ false) .ret))
theorem body : Try.f52.body = some code := by kernel_rfl
theorem main (P : PT) : ∀ env H, (En 5 k0 (B2 P)) env H → AW Try.prog T0 code env H (mkQ (ret P) (fun _ _ _ => False) (ret P)) :=
  (r_seq (rB T0_ok (q2 P)) (r_seq (rB T0_ok (q1 P)) r_ret))
theorem ac (P : PT) (x0 : Int) (H : AHeap) (h : B2 P x0 H) : AC Try.prog T0 52 [(Value.int .i64 x0)] H P :=
  r_fn T0_ok (c := code) (n := 5) Try.func52 body (by kernel_rfl) (main P) (En_mk (x0, ()) (by kernel_rfl) ⟨by kernel_rfl, trivial⟩ h)

end F52
-- loop.example/g01329/impl.within
namespace F53
noncomputable def ret (P : PT) : EP := retE T0 15 Try.f53 P
abbrev k0 : Sk := [(0,.i .i64),(1,.i .i64),(2,.i .i64)]
noncomputable def o1 := ob Try.f53 [.r,.l]
def B1 (P : PT) (x0 x1 x2 : Int) (H : AHeap) : Prop :=
  pif (decide ((x1 : Int) ≤ x0)) (P (Value.bool (decide ((x0 : Int) ≤ x2))) H) (P (Value.bool false) H)
theorem q1 (P : PT) : QB Try.prog T0 15 o1 (ret P) k0 (B1 P) := fun _ _ _ _ _  => by kernel_rfl
noncomputable def o2 := ob Try.f53 [.l]
def B2 (P : PT) (x0 x1 x2 : Int) (H : AHeap) : Prop :=
  B1 P x0 x1 x2 H
theorem q2 (P : PT) : QB Try.prog T0 15 o2 (En 15 k0 (B1 P)) k0 (B2 P) := fun _ _ _ _ _  => by kernel_rfl
noncomputable def code : Code := (.seq (.region 0 ⟨o2⟩ false) (.seq (.region 1 ⟨o1⟩ false) .ret))
theorem body : Try.f53.body = some code := by kernel_rfl
theorem main (P : PT) : ∀ env H, (En 15 k0 (B2 P)) env H → AW Try.prog T0 code env H (mkQ (ret P) (fun _ _ _ => False) (ret P)) :=
  (r_seq (rB T0_ok (q2 P)) (r_seq (rB T0_ok (q1 P)) r_ret))
theorem ac (P : PT) (x0 x1 x2 : Int) (H : AHeap) (h : B2 P x0 x1 x2 H) : AC Try.prog T0 53 [(Value.int .i64 x0), (Value.int .i64 x1), (Value.int .i64 x2)] H P :=
  r_fn T0_ok (c := code) (n := 15) Try.func53 body (by kernel_rfl) (main P) (En_mk (x0, x1, x2, ()) (by kernel_rfl) ⟨by kernel_rfl, by kernel_rfl, by kernel_rfl, trivial⟩ h)

end F53
-- (loop.example/g01329/impl.Graph).areSets
namespace F54
noncomputable def ret (P : PT) : EP := retE T0 8 Try.f54 P
abbrev k0 : Sk := [(1,.v),(2,.x)]
noncomputable def o1 := ob Try.f54 [.r,.l]
def B1 (P : PT) (x1 : Value) (x2 : Nat) (H : AHeap) : Prop :=
  AC Try.prog T0 86 [x1, (Value.func (.func 87) ⟨[]⟩ ⟨[(Value.pointer (some ⟨x2, 0, none⟩))]⟩)] H (fun v1 H2 => asB v1 (fun v3 => P (Value.bool v3) H2))
theorem q1 (P : PT) : QB Try.prog T0 8 o1 (ret P) k0 (B1 P) := fun _ _ _ _  => by kernel_rfl
abbrev k1 : Sk := [(0,.g [.i,.v]),(1,.v)]
noncomputable def o2 := ob Try.f54 [.l]
def B2 (P : PT) (x0a : Int) (x0b x1 : Value) (H : AHeap) : Prop :=
  newK H [(Value.int .i64 x0a), x0b] 31 (fun b1 H2 => B1 P x1 b1 H2)
theorem q2 (P : PT) : QB Try.prog T0 8 o2 (En 8 k0 (B1 P)) k1 (B2 P) := fun _ _ _ _ _  => by kernel_rfl
noncomputable def code : Code := (.seq (.region 0 ⟨o2⟩ false) (.seq (.region 1 ⟨o1⟩ false) .ret))
theorem body : Try.f54.body = some code := by kernel_rfl
theorem main (P : PT) : ∀ env H, (En 8 k1 (B2 P)) env H → AW Try.prog T0 code env H (mkQ (ret P) (fun _ _ _ => False) (ret P)) :=
  (r_seq (rB T0_ok (q2 P)) (r_seq (rB T0_ok (q1 P)) r_ret))
theorem ac (P : PT) (x0a : Int) (x0b x1 : Value) (H : AHeap) (h : B2 P x0a x0b x1 H) : AC Try.prog T0 54 [(Value.agg ⟨[(Value.int .i64 x0a), x0b]⟩), x1] H P :=
  r_fn T0_ok (c := code) (n := 8) Try.func54 body (by kernel_rfl) (main P) (En_mk (x0a, x0b, x1, ()) (by kernel_rfl) ⟨by kernel_rfl, by kernel_rfl, trivial⟩ h)

end F54
-- loop.example/g01329/impl.areAll[int64]
namespace F55
noncomputable def ret (P : PT) : EP := retE T0 9 Try.f55 P
abbrev k0 : Sk := [(0,.v),(3,.x)]
noncomputable def o1 := ob Try.f55 [.r,.l]
def B1 (P : PT) (x0 : Value) (x3 : Nat) (H : AHeap) : Prop :=
  AC Try.prog T0 89 [x0, (Value.func (.func 90) ⟨[]⟩ ⟨[(Value.pointer (some ⟨x3, 0, none⟩))]⟩)] H (fun v1 H2 => asB v1 (fun v3 => P (Value.bool (!v3)) H2))
theorem q1 (P : PT) : QB Try.prog T0 9 o1 (ret P) k0 (B1 P) := fun _ _ _ _  => by kernel_rfl
abbrev k1 : Sk := [(0,.v),(1,.v)]
noncomputable def o2 := ob Try.f55 [.l]
def B2 (P : PT) (x0 x1 : Value) (H : AHeap) : Prop :=
  pif (Value.oneCell' x1) (newK H [x1] 75 (fun b1 H2 => B1 P x0 b1 H2)) False
theorem q2 (P : PT) : QB Try.prog T0 9 o2 (En 9 k0 (B1 P)) k1 (B2 P) := fun _ _ _ _  => by kernel_rfl
noncomputable def code : Code := (.seq (.region 0 ⟨o2⟩ false) (.seq (.region 1 ⟨o1⟩ false) .ret))
theorem body : Try.f55.body = some code := by kernel_rfl
theorem main (P : PT) : ∀ env H, (En 9 k1 (B2 P)) env H → AW Try.prog T0 code env H (mkQ (ret P) (fun _ _ _ => False) (ret P)) :=
  (r_seq (rB T0_ok (q2 P)) (r_seq (rB T0_ok (q1 P)) r_ret))
theorem ac (P : PT) (x0 x1 : Value) (H : AHeap) (h : B2 P x0 x1 H) : AC Try.prog T0 55 [x0, x1] H P :=
  r_fn T0_ok (c := code) (n := 9) Try.func55 body (by kernel_rfl) (main P) (En_mk (x0, x1, ()) (by kernel_rfl) ⟨by kernel_rfl, by kernel_rfl, trivial⟩ h)

end F55
-- (loop.example/g01329/impl.Graph).isDouble
namespace F56
noncomputable def ret (P : PT) : EP := retE T0 41 Try.f56 P
abbrev k0 : Sk := [(5,.v)]
noncomputable def o1 := ob Try.f56 [.r,.r,.r,.l]
def B1 (P : PT) (x5 : Value) (H : AHeap) : Prop :=
  AC Try.prog T0 92 [x5, (Value.func (.func 93) ⟨[]⟩ ⟨[]⟩)] H (fun v1 H2 => asB v1 (fun v3 => P (Value.bool v3) H2))
theorem q1 (P : PT) : QB Try.prog T0 41 o1 (ret P) k0 (B1 P) := fun _ _ _  => by kernel_rfl
abbrev k1 : Sk := [(2,.x),(5,.v),(14,.v),(15,.i .i64),(16,.i .i64)]
noncomputable def o3 := ob Try.f56 [.r,.r,.l,.r,.l,.l,.r,.r,.r]
def B3 (P : PT) (N2 : NTy k1 Pr) (x2 : Nat) (x5 x14 : Value) (x15 x16 : Int) (H : AHeap) : Prop :=
  N2 x2 x5 x14 x15 (IntKind.i64.wrap (x16 + 1)) H
theorem q3 (P : PT) (N2 : NTy k1 Pr) : QB Try.prog T0 41 o3 (En 41 k1 N2) k1 (B3 P N2) := fun _ _ _ _ _ _ _  => by kernel_rfl
abbrev k2 : Sk := [(2,.x),(5,.v),(14,.v),(15,.i .i64),(16,.i .i64),(25,.v),(26,.i .i64),(27,.i .i64)]
noncomputable def o5 := ob Try.f56 [.r,.r,.l,.r,.l,.l,.r,.r,.l,.l,.r,.r,.r,.l,.l,.r,.r,.r]
def B5 (P : PT) (N2 : NTy k1 Pr) (N4 : NTy k2 Pr) (x2 : Nat) (x5 x14 : Value) (x15 x16 : Int) (x25 : Value) (x26 x27 : Int) (H : AHeap) : Prop :=
  N4 x2 x5 x14 x15 x16 x25 x26 (IntKind.i64.wrap (x27 + 1)) H
theorem q5 (P : PT) (N2 : NTy k1 Pr) (N4 : NTy k2 Pr) : QB Try.prog T0 41 o5 (En 41 k2 N4) k2 (B5 P N2 N4) := fun _ _ _ _ _ _ _ _ _ _  => by kernel_rfl
abbrev k3 : Sk := [(2,.x),(5,.v),(9,.i .i64),(14,.v),(15,.i .i64),(16,.i .i64),(25,.v),(26,.i .i64),(27,.i .i64)]
noncomputable def o6 := ob Try.f56 [.r,.r,.l,.r,.l,.l,.r,.r,.l,.l,.r,.r,.r,.l,.l,.r,.r,.l,.l,.r]
def B6 (P : PT) (N2 : NTy k1 Pr) (N4 : NTy k2 Pr) (x2 : Nat) (x5 : Value) (x9 : Int) (x14 : Value) (x15 x16 : Int) (x25 : Value) (x26 x27 : Int) (H : AHeap) : Prop :=
  idxK x5 x9 1 (fun b1 o2 => ldI .i64 H b1 o2 (fun v3 => idxK x5 x9 1 (fun b4 o5 => stK H b4 o5 [(Value.int .i64 (IntKind.i64.wrap (v3 + 1)))] (fun H6 => B5 P N2 N4 x2 x5 x14 x15 x16 x25 x26 x27 H6))))
theorem q6 (P : PT) (N2 : NTy k1 Pr) (N4 : NTy k2 Pr) : QB Try.prog T0 41 o6 (En 41 k2 (B5 P N2 N4)) k3 (B6 P N2 N4) := fun _ _ _ _ _ _ _ _ _ _ _  => by kernel_rfl
noncomputable def o7 := ob Try.f56 [.r,.r,.l,.r,.l,.l,.r,.r,.l,.l,.r,.r,.r,.l,.l,.r,.r,.l,.l,.l]
def B7 (P : PT) (N2 : NTy k1 Pr) (N4 : NTy k2 Pr) (x2 : Nat) (x5 x14 : Value) (x15 x16 : Int) (x25 : Value) (x26 x27 : Int) (H : AHeap) : Prop :=
  idxK x25 x27 1 (fun b1 o2 => ldI .i64 H b1 o2 (fun v3 => B6 P N2 N4 x2 x5 v3 x14 x15 x16 x25 x26 x27 H))
theorem q7 (P : PT) (N2 : NTy k1 Pr) (N4 : NTy k2 Pr) : QB Try.prog T0 41 o7 (En 41 k3 (B6 P N2 N4)) k2 (B7 P N2 N4) := fun _ _ _ _ _ _ _ _ _ _  => by kernel_rfl
noncomputable def o8 := ob Try.f56 [.r,.r,.l,.r,.l,.l,.r,.r,.l,.l,.r,.r,.r,.l,.l,.l]
def B8 (P : PT) (N2 : NTy k1 Pr) (N4 : NTy k2 Pr) (x2 : Nat) (x5 x14 : Value) (x15 x16 : Int) (x25 : Value) (x26 x27 : Int) (H : AHeap) : Prop :=
  pif (decide ((x27 : Int) < x26)) (B7 P N2 N4 x2 x5 x14 x15 x16 x25 x26 x27 H) (B3 P N2 x2 x5 x14 x15 x16 H)
theorem q8 (P : PT) (N2 : NTy k1 Pr) (N4 : NTy k2 Pr) : QB Try.prog T0 41 o8 (cnd 28 (En 41 k2 (B7 P N2 N4)) (En 41 k1 (B3 P N2))) k2 (B8 P N2 N4) := fun _ _ _ _ _ _ _ _ _ _  => by kernel_rfl
def L4 (P : PT) (N2 : NTy k1 Pr) (x2 : Nat) (x5 x14 : Value) (x15 x16 : Int) (x25 : Value) (x26 x27 : Int) (H : AHeap) : Prop :=
  ∃ (I : NTy k2 Pr) (μ : NTy k2 (AHeap → Nat)), I x2 x5 x14 x15 x16 x25 x26 x27 H ∧ ∀ y2 y5 y14 y15 y16 y25 y26 y27 G, I y2 y5 y14 y15 y16 y25 y26 y27 G → B8 P N2 (fun z2 z5 z14 z15 z16 z25 z26 z27 G' => I z2 z5 z14 z15 z16 z25 z26 z27 G' ∧ μ z2 z5 z14 z15 z16 z25 z26 z27 G' < μ y2 y5 y14 y15 y16 y25 y26 y27 G) y2 y5 y14 y15 y16 y25 y26 y27 G
theorem l4 (P : PT) (N2 : NTy k1 Pr) : LQ k2 (L4 P N2) (B8 P N2) := fun ⟨_,_,_,_,_,_,_,_,_⟩ _ ⟨I, μ, h0, hI⟩ => ⟨apT _ I, apT _ μ, h0, fun ⟨_,_,_,_,_,_,_,_,_⟩ _ h => hI _ _ _ _ _ _ _ _ _  h⟩
abbrev k4 : Sk := [(2,.x),(5,.v),(7,.v),(14,.v),(15,.i .i64),(16,.i .i64)]
noncomputable def o9 := ob Try.f56 [.r,.r,.l,.r,.l,.l,.r,.r,.l,.l,.r,.r,.l]
def B9 (P : PT) (N2 : NTy k1 Pr) (x2 : Nat) (x5 x7 x14 : Value) (x15 x16 : Int) (H : AHeap) : Prop :=
  lenK x7 (fun n1 => L4 P N2 x2 x5 x14 x15 x16 x7 (n1 : Int) 0 H)
theorem q9 (P : PT) (N2 : NTy k1 Pr) : QB Try.prog T0 41 o9 (En 41 k2 (L4 P N2)) k4 (B9 P N2) := fun _ _ _ _ _ _ _ _  => by kernel_rfl
abbrev k5 : Sk := []
noncomputable def o10 := ob Try.f56 [.r,.r,.l,.r,.l,.l,.r,.r,.l,.l,.r,.l,.r,.l,.l]
def B10 (P : PT) (N2 : NTy k1 Pr) (H : AHeap) : Prop :=
  P (Value.bool false) H
theorem q10 (P : PT) (N2 : NTy k1 Pr) : QB Try.prog T0 41 o10 (ret P) k5 (B10 P N2) := fun _ _  => by kernel_rfl
noncomputable def o11 := ob Try.f56 [.r,.r,.l,.r,.l,.l,.r,.r,.l,.l,.r,.l,.l]
def B11 (P : PT) (N2 : NTy k1 Pr) (x2 : Nat) (x5 x7 x14 : Value) (x15 x16 : Int) (H : AHeap) : Prop :=
  ldI .i64 H x2 0 (fun v1 => ld1 H x2 1 (fun v2 => AC Try.prog T0 58 [x7] H (fun v3 H4 => asI .u64 v3 (fun v5 => (AHeap.le H H4) ∧ (AC Try.prog T0 91 [(Value.agg ⟨[(Value.int .i64 v1), v2]⟩), (Value.int .u64 v5)] H4 (fun v6 H7 => asB v6 (fun v8 => pif (!v8) (B10 P N2 H7) (B9 P N2 x2 x5 x7 x14 x15 x16 H7))))))))
theorem q11 (P : PT) (N2 : NTy k1 Pr) : QD Try.prog T0 41 o11 [(0, false), (1, false), (2, true), (3, false), (4, false)] (cnd 24 (En 41 k5 (B10 P N2)) (En 41 k4 (B9 P N2))) k4 (B11 P N2) := fun _ _ _ _ _ _ _ _  => by kernel_rfl
noncomputable def o12 := ob Try.f56 [.r,.r,.l,.r,.l,.l,.r,.r,.l,.l,.l]
def B12 (P : PT) (N2 : NTy k1 Pr) (x2 : Nat) (x5 x14 : Value) (x15 x16 : Int) (H : AHeap) : Prop :=
  idxK x14 x16 1 (fun b1 o2 => ld1 H b1 o2 (fun v3 => B11 P N2 x2 x5 v3 x14 x15 x16 H))
theorem q12 (P : PT) (N2 : NTy k1 Pr) : QB Try.prog T0 41 o12 (En 41 k4 (B11 P N2)) k1 (B12 P N2) := fun _ _ _ _ _ _ _  => by kernel_rfl
noncomputable def o13 := ob Try.f56 [.r,.r,.l,.r,.l,.l,.l]
def B13 (P : PT) (N2 : NTy k1 Pr) (x2 : Nat) (x5 x14 : Value) (x15 x16 : Int) (H : AHeap) : Prop :=
  pif (decide ((x16 : Int) < x15)) (B12 P N2 x2 x5 x14 x15 x16 H) (B1 P x5 H)
theorem q13 (P : PT) (N2 : NTy k1 Pr) : QB Try.prog T0 41 o13 (cnd 17 (En 41 k1 (B12 P N2)) (En 41 k0 (B1 P))) k1 (B13 P N2) := fun _ _ _ _ _ _ _  => by kernel_rfl
def L2 (P : PT) (x2 : Nat) (x5 x14 : Value) (x15 x16 : Int) (H : AHeap) : Prop :=
  ∃ (I : NTy k1 Pr) (μ : NTy k1 (AHeap → Nat)), I x2 x5 x14 x15 x16 H ∧ ∀ y2 y5 y14 y15 y16 G, I y2 y5 y14 y15 y16 G → B13 P (fun z2 z5 z14 z15 z16 G' => I z2 z5 z14 z15 z16 G' ∧ μ z2 z5 z14 z15 z16 G' < μ y2 y5 y14 y15 y16 G) y2 y5 y14 y15 y16 G
theorem l2 (P : PT) : LQ k1 (L2 P) (B13 P) := fun ⟨_,_,_,_,_,_⟩ _ ⟨I, μ, h0, hI⟩ => ⟨apT _ I, apT _ μ, h0, fun ⟨_,_,_,_,_,_⟩ _ h => hI _ _ _ _ _ _  h⟩
abbrev k6 : Sk := [(1,.v),(2,.x),(5,.v)]
noncomputable def o14 := ob Try.f56 [.r,.r,.l,.l]
def B14 (P : PT) (x1 : Value) (x2 : Nat) (x5 : Value) (H : AHeap) : Prop :=
  lenK x1 (fun n1 => L2 P x2 x5 x1 (n1 : Int) 0 H)
theorem q14 (P : PT) : QB Try.prog T0 41 o14 (En 41 k1 (L2 P)) k6 (B14 P) := fun _ _ _ _ _  => by kernel_rfl
abbrev k7 : Sk := [(1,.v),(2,.x)]
noncomputable def o15 := ob Try.f56 [.r,.l]
def B15 (P : PT) (x1 : Value) (x2 : Nat) (H : AHeap) : Prop :=
  ld1 H x2 1 (fun v1 => lenK v1 (fun n2 => mkR H 8 3 [(Value.int .i64 0)] (n2 : Int) (n2 : Int) (fun v4 H3 => B14 P x1 x2 v4 H3)))
theorem q15 (P : PT) : QB Try.prog T0 41 o15 (En 41 k6 (B14 P)) k7 (B15 P) := fun _ _ _ _  => by kernel_rfl
abbrev k8 : Sk := [(0,.g [.i,.v]),(1,.v)]
noncomputable def o16 := ob Try.f56 [.l]
def B16 (P : PT) (x0a : Int) (x0b x1 : Value) (H : AHeap) : Prop :=
  newK H [(Value.int .i64 x0a), x0b] 31 (fun b1 H2 => B15 P x1 b1 H2)
theorem q16 (P : PT) : QB Try.prog T0 41 o16 (En 41 k7 (B15 P)) k8 (B16 P) := fun _ _ _ _ _  => by kernel_rfl
noncomputable def code : Code := (.seq (.region 0 ⟨o16⟩ false) (.seq (.region 1 ⟨o15⟩ false) (.seq (.seq (.region 2 ⟨o14⟩ false) (.block 0 (.loop (.seq (.region 3 ⟨o13⟩ false) (.seq (.cond (.tmp 17) .skip (.exit 0)) (.seq (.block 1 (.seq (.region 4 ⟨o12⟩ false) (.seq (.seq (.region 5 ⟨o11⟩ true) (.cond (.tmp 24) (.seq (.region 6 ⟨o10⟩ false) .ret) .skip)) (.seq (.region 7 ⟨o9⟩ false) (.block 2 (.loop (.seq (.region 8 ⟨o8⟩ false) (.seq (.cond (.tmp 28) .skip (.exit 2)) (.seq (.block 3 (.seq (.region 9 ⟨o7⟩ false) (.region 10 ⟨o6⟩ false))) (.region 11 ⟨o5⟩ false)))))))))) (.region 12 ⟨o3⟩ false))))))) (.seq (.region 13 ⟨o1⟩ false) .ret))))
theorem body : Try.f56.body = some code := by kernel_rfl
theorem main (P : PT) : ∀ env H, (En 41 k8 (B16 P)) env H → AW Try.prog T0 code env H (mkQ (ret P) (fun _ _ _ => False) (ret P)) :=
  (r_seq (rB T0_ok (q16 P)) (r_seq (rB T0_ok (q15 P)) (r_seq (r_seq (rB T0_ok (q14 P)) (r_block (rL (l2 P) (fun N2 => (r_seq (rB T0_ok (q13 P N2)) (r_seq (r_cond rfl r_skip (r_exit (fun _ _ h => h))) (r_seq (r_block (r_seq (rB T0_ok (q12 P N2)) (r_seq (r_seq (rD T0_ok mixed [(0, false), (1, false), (2, true), (3, false), (4, false)] (by kernel_rfl) (q11 P N2)) (r_cond rfl (r_seq (rB T0_ok (q10 P N2)) r_ret) r_skip)) (r_seq (rB T0_ok (q9 P N2)) (r_block (rL (l4 P N2) (fun N4 => (r_seq (rB T0_ok (q8 P N2 N4)) (r_seq (r_cond rfl r_skip (r_exit (fun _ _ h => h))) (r_seq (r_block (r_seq (rB T0_ok (q7 P N2 N4)) (rB T0_ok (q6 P N2 N4)))) (rB T0_ok (q5 P N2 N4)))))))))))) (rB T0_ok (q3 P N2))))))))) (r_seq (rB T0_ok (q1 P)) r_ret))))
theorem ac (P : PT) (x0a : Int) (x0b x1 : Value) (H : AHeap) (h : B16 P x0a x0b x1 H) : AC Try.prog T0 56 [(Value.agg ⟨[(Value.int .i64 x0a), x0b]⟩), x1] H P :=
  r_fn T0_ok (c := code) (n := 41) Try.func56 body (by kernel_rfl) (main P) (En_mk (x0a, x0b, x1, ()) (by kernel_rfl) ⟨by kernel_rfl, by kernel_rfl, trivial⟩ h)

end F56
-- (loop.example/g01329/impl.Graph).around
namespace F57
noncomputable def ret (P : PT) : EP := retE T0 50 Try.f57 P
abbrev k0 : Sk := [(1,.i .u64),(2,.x),(5,.x),(6,.v)]
abbrev k1 : Sk := [(1,.i .u64),(2,.x),(5,.x),(6,.v),(7,.i .i64),(9,.i .i64)]
noncomputable def o2 := ob Try.f57 [.r,.r,.r,.l,.l,.l,.r,.r,.r,.r,.r,.r]
def B2 (P : PT) (N1 : NTy k0 Pr) (x1 : Int) (x2 x5 : Nat) (x6 : Value) (x7 x9 : Int) (H : AHeap) : Prop :=
  ld1 H x2 1 (fun v1 => idxK v1 x9 2 (fun b2 o3 => ldI .i64 H b2 (o3 + 1) (fun v4 => stK H x5 0 [(Value.int .i64 x9), (Value.bool ((v4 : Int) == x7))] (fun H5 => N1 x1 x2 x5 x6 H5))))
theorem q2 (P : PT) (N1 : NTy k0 Pr) : QB Try.prog T0 50 o2 (En 50 k0 N1) k1 (B2 P N1) := fun _ _ _ _ _ _ _ _  => by kernel_rfl
abbrev k2 : Sk := [(1,.i .u64),(2,.x),(5,.x),(6,.v),(7,.i .i64),(8,.i .u64)]
noncomputable def o3 := ob Try.f57 [.r,.r,.r,.l,.l,.l,.r,.r,.r,.r,.r,.l]
def B3 (P : PT) (N1 : NTy k0 Pr) (x1 : Int) (x2 x5 : Nat) (x6 : Value) (x7 x8 : Int) (H : AHeap) : Prop :=
  AC Try.prog T0 82 [(Value.int .u64 x8)] H (fun v1 H2 => idxK v1 0 1 (fun b4 o5 => ldI .i64 H2 b4 o5 (fun v6 => B2 P N1 x1 x2 x5 x6 x7 v6 H2)))
theorem q3 (P : PT) (N1 : NTy k0 Pr) : QB Try.prog T0 50 o3 (En 50 k1 (B2 P N1)) k2 (B3 P N1) := fun _ _ _ _ _ _ _ _  => by kernel_rfl
abbrev k3 : Sk := [(6,.v)]
noncomputable def o4 := ob Try.f57 [.r,.r,.r,.l,.l,.l,.r,.r,.r,.r,.l,.r,.l,.l]
def B4 (P : PT) (N1 : NTy k0 Pr) (x6 : Value) (H : AHeap) : Prop :=
  P x6 H
theorem q4 (P : PT) (N1 : NTy k0 Pr) : QB Try.prog T0 50 o4 (ret P) k3 (B4 P N1) := fun _ _ _  => by kernel_rfl
noncomputable def o5 := ob Try.f57 [.r,.r,.r,.l,.l,.l,.r,.r,.r,.r,.l,.l]
def B5 (P : PT) (N1 : NTy k0 Pr) (x1 : Int) (x2 x5 : Nat) (x6 : Value) (x7 x8 : Int) (H : AHeap) : Prop :=
  pif ((x8 : Int) == 0) (B4 P N1 x6 H) (B3 P N1 x1 x2 x5 x6 x7 x8 H)
theorem q5 (P : PT) (N1 : NTy k0 Pr) : QB Try.prog T0 50 o5 (cnd 34 (En 50 k3 (B4 P N1)) (En 50 k2 (B3 P N1))) k2 (B5 P N1) := fun _ _ _ _ _ _ _ _  => by kernel_rfl
abbrev k4 : Sk := [(1,.i .u64),(2,.x),(5,.x),(6,.v),(7,.i .i64)]
noncomputable def o6 := ob Try.f57 [.r,.r,.r,.l,.l,.l,.r,.r,.r,.l]
def B6 (P : PT) (N1 : NTy k0 Pr) (x1 : Int) (x2 x5 : Nat) (x6 : Value) (x7 : Int) (H : AHeap) : Prop :=
  ldI .i64 H x2 0 (fun v1 => ld1 H x2 1 (fun v2 => AC Try.prog T0 95 [(Value.agg ⟨[(Value.int .i64 v1), v2]⟩), (Value.int .i64 x7)] H (fun v3 H4 => AC Try.prog T0 58 [v3] H4 (fun v6 H7 => asI .u64 v6 (fun v8 => B5 P N1 x1 x2 x5 x6 x7 (IntKind.u64.wrap (BitVec.ofInt 64 v8 &&& BitVec.ofInt 64 x1).toNat) H7)))))
theorem q6 (P : PT) (N1 : NTy k0 Pr) : QB Try.prog T0 50 o6 (En 50 k2 (B5 P N1)) k4 (B6 P N1) := fun _ _ _ _ _ _ _  => by kernel_rfl
noncomputable def o7 := ob Try.f57 [.r,.r,.r,.l,.l,.l,.r,.r,.l]
def B7 (P : PT) (N1 : NTy k0 Pr) (x1 : Int) (x2 x5 : Nat) (x6 : Value) (H : AHeap) : Prop :=
  ldI .i64 H x2 0 (fun v1 => ld1 H x2 1 (fun v2 => ldI .i64 H x5 0 (fun v3 => ld1 H x5 1 (fun v5 => asB v5 (fun v4 => AC Try.prog T0 94 [(Value.agg ⟨[(Value.int .i64 v1), v2]⟩), (Value.agg ⟨[(Value.int .i64 v3), (Value.bool v4)]⟩)] H (fun v6 H7 => asI .i64 v6 (fun v8 => B6 P N1 x1 x2 x5 x6 v8 H7)))))))
theorem q7 (P : PT) (N1 : NTy k0 Pr) : QB Try.prog T0 50 o7 (En 50 k4 (B6 P N1)) k0 (B7 P N1) := fun _ _ _ _ _ _  => by kernel_rfl
noncomputable def o8 := ob Try.f57 [.r,.r,.r,.l,.l,.l,.r,.l]
def B8 (P : PT) (N1 : NTy k0 Pr) (x1 : Int) (x2 x5 : Nat) (x6 : Value) (H : AHeap) : Prop :=
  ldI .i64 H x5 0 (fun v1 => ((0 : Int) ≤ v1) ∧ (B7 P N1 (IntKind.u64.wrap (BitVec.ofInt 64 x1 &&& ~~~(BitVec.ofInt 64 (IntKind.u64.wrap (1 * 2 ^ (min (Int.toNat v1) 64))))).toNat) x2 x5 x6 H))
theorem q8 (P : PT) (N1 : NTy k0 Pr) : QB Try.prog T0 50 o8 (En 50 k0 (B7 P N1)) k0 (B8 P N1) := fun _ _ _ _ _ _  => by kernel_rfl
noncomputable def o9 := ob Try.f57 [.r,.r,.r,.l,.l,.l,.l]
def B9 (P : PT) (N1 : NTy k0 Pr) (x1 : Int) (x2 x5 : Nat) (x6 : Value) (H : AHeap) : Prop :=
  ldI .i64 H x5 0 (fun v1 => ld1 H x5 1 (fun v3 => asB v3 (fun v2 => newK H [(Value.int .i64 v1), (Value.bool v2)] 85 (fun b4 H5 => apK T0 85 H5 x6 (Value.slice (some ⟨b4, 0, none⟩) 1 (1 + 1)) (fun v6 H7 => B8 P N1 x1 x2 x5 v6 H7)))))
theorem q9 (P : PT) (N1 : NTy k0 Pr) : QB Try.prog T0 50 o9 (En 50 k0 (B8 P N1)) k0 (B9 P N1) := fun _ _ _ _ _ _  => by kernel_rfl
def L1 (P : PT) (x1 : Int) (x2 x5 : Nat) (x6 : Value) (H : AHeap) : Prop :=
  ∃ (I : NTy k0 Pr) (μ : NTy k0 (AHeap → Nat)), I x1 x2 x5 x6 H ∧ ∀ y1 y2 y5 y6 G, I y1 y2 y5 y6 G → B9 P (fun z1 z2 z5 z6 G' => I z1 z2 z5 z6 G' ∧ μ z1 z2 z5 z6 G' < μ y1 y2 y5 y6 G) y1 y2 y5 y6 G
theorem l1 (P : PT) : LQ k0 (L1 P) (B9 P) := fun ⟨_,_,_,_,_⟩ _ ⟨I, μ, h0, hI⟩ => ⟨apT _ I, apT _ μ, h0, fun ⟨_,_,_,_,_⟩ _ h => hI _ _ _ _ _  h⟩
abbrev k5 : Sk := [(1,.i .u64),(2,.x),(5,.x)]
noncomputable def o10 := ob Try.f57 [.r,.r,.l]
def B10 (P : PT) (x1 : Int) (x2 x5 : Nat) (H : AHeap) : Prop :=
  L1 P x1 x2 x5 (Value.slice none 0 0) H
theorem q10 (P : PT) : QB Try.prog T0 50 o10 (En 50 k0 (L1 P)) k5 (B10 P) := fun _ _ _ _ _  => by kernel_rfl
abbrev k6 : Sk := [(1,.i .u64),(2,.x)]
noncomputable def o11 := ob Try.f57 [.r,.l]
def B11 (P : PT) (x1 : Int) (x2 : Nat) (H : AHeap) : Prop :=
  AC Try.prog T0 82 [(Value.int .u64 x1)] H (fun v1 H2 => idxK v1 0 1 (fun b4 o5 => ldI .i64 H2 b4 o5 (fun v6 => newK H2 [(Value.int .i64 0), (Value.bool false)] 85 (fun b7 H8 => stK H8 b7 0 [(Value.int .i64 v6), (Value.bool false)] (fun H9 => B10 P x1 x2 b7 H9)))))
theorem q11 (P : PT) : QB Try.prog T0 50 o11 (En 50 k5 (B10 P)) k6 (B11 P) := fun _ _ _ _  => by kernel_rfl
abbrev k7 : Sk := [(0,.g [.i,.v]),(1,.i .u64)]
noncomputable def o12 := ob Try.f57 [.l]
def B12 (P : PT) (x0a : Int) (x0b : Value) (x1 : Int) (H : AHeap) : Prop :=
  newK H [(Value.int .i64 x0a), x0b] 31 (fun b1 H2 => B11 P x1 b1 H2)
theorem q12 (P : PT) : QB Try.prog T0 50 o12 (En 50 k6 (B11 P)) k7 (B12 P) := fun _ _ _ _ _  => by kernel_rfl
noncomputable def code : Code := (.seq (.region 0 ⟨o12⟩ false) (.seq (.region 1 ⟨o11⟩ false) (.seq (.region 2 ⟨o10⟩ false) (.block 0 (.loop (.block 1 (.seq (.region 3 ⟨o9⟩ false) (.seq (.region 4 ⟨o8⟩ false) (.seq (.region 5 ⟨o7⟩ false) (.seq (.region 6 ⟨o6⟩ false) (.seq (.seq (.region 7 ⟨o5⟩ false) (.cond (.tmp 34) (.seq (.region 8 ⟨o4⟩ false) .ret) .skip)) (.seq (.region 9 ⟨o3⟩ false) (.region 10 ⟨o2⟩ false)))))))))))))
theorem body : Try.f57.body = some code := by kernel_rfl
theorem main (P : PT) : ∀ env H, (En 50 k7 (B12 P)) env H → AW Try.prog T0 code env H (mkQ (ret P) (fun _ _ _ => False) (ret P)) :=
  (r_seq (rB T0_ok (q12 P)) (r_seq (rB T0_ok (q11 P)) (r_seq (rB T0_ok (q10 P)) (r_block (rL (l1 P) (fun N1 => (r_block (r_seq (rB T0_ok (q9 P N1)) (r_seq (rB T0_ok (q8 P N1)) (r_seq (rB T0_ok (q7 P N1)) (r_seq (rB T0_ok (q6 P N1)) (r_seq (r_seq (rB T0_ok (q5 P N1)) (r_cond rfl (r_seq (rB T0_ok (q4 P N1)) r_ret) r_skip)) (r_seq (rB T0_ok (q3 P N1)) (rB T0_ok (q2 P N1)))))))))))))))
theorem ac (P : PT) (x0a : Int) (x0b : Value) (x1 : Int) (H : AHeap) (h : B12 P x0a x0b x1 H) : AC Try.prog T0 57 [(Value.agg ⟨[(Value.int .i64 x0a), x0b]⟩), (Value.int .u64 x1)] H P :=
  r_fn T0_ok (c := code) (n := 50) Try.func57 body (by kernel_rfl) (main P) (En_mk (x0a, x0b, x1, ()) (by kernel_rfl) ⟨by kernel_rfl, by kernel_rfl, trivial⟩ h)

end F57
-- loop.example/g01329/impl.setOf
namespace F58
noncomputable def ret (P : PT) : EP := retE T0 18 Try.f58 P
abbrev k0 : Sk := [(3,.i .u64)]
noncomputable def o1 := ob Try.f58 [.r,.r,.r,.l]
def B1 (P : PT) (x3 : Int) (H : AHeap) : Prop :=
  P (Value.int .u64 x3) H
theorem q1 (P : PT) : QB Try.prog T0 18 o1 (ret P) k0 (B1 P) := fun _ _ _  => by kernel_rfl
abbrev k1 : Sk := [(3,.i .u64),(6,.v),(7,.i .i64),(8,.i .i64)]
noncomputable def o3 := ob Try.f58 [.r,.r,.l,.r,.l,.l,.r,.r,.r]
def B3 (P : PT) (N2 : NTy k1 Pr) (x3 : Int) (x6 : Value) (x7 x8 : Int) (H : AHeap) : Prop :=
  N2 x3 x6 x7 (IntKind.i64.wrap (x8 + 1)) H
theorem q3 (P : PT) (N2 : NTy k1 Pr) : QB Try.prog T0 18 o3 (En 18 k1 N2) k1 (B3 P N2) := fun _ _ _ _ _ _  => by kernel_rfl
abbrev k2 : Sk := [(3,.i .u64),(5,.i .i64),(6,.v),(7,.i .i64),(8,.i .i64)]
noncomputable def o4 := ob Try.f58 [.r,.r,.l,.r,.l,.l,.r,.r,.l,.l,.r]
def B4 (P : PT) (N2 : NTy k1 Pr) (x3 x5 : Int) (x6 : Value) (x7 x8 : Int) (H : AHeap) : Prop :=
  ((0 : Int) ≤ x5) ∧ (B3 P N2 (IntKind.u64.wrap (BitVec.ofInt 64 x3 ||| BitVec.ofInt 64 (IntKind.u64.wrap (1 * 2 ^ (min (Int.toNat x5) 64)))).toNat) x6 x7 x8 H)
theorem q4 (P : PT) (N2 : NTy k1 Pr) : QB Try.prog T0 18 o4 (En 18 k1 (B3 P N2)) k2 (B4 P N2) := fun _ _ _ _ _ _ _  => by kernel_rfl
noncomputable def o5 := ob Try.f58 [.r,.r,.l,.r,.l,.l,.r,.r,.l,.l,.l]
def B5 (P : PT) (N2 : NTy k1 Pr) (x3 : Int) (x6 : Value) (x7 x8 : Int) (H : AHeap) : Prop :=
  idxK x6 x8 1 (fun b1 o2 => ldI .i64 H b1 o2 (fun v3 => B4 P N2 x3 v3 x6 x7 x8 H))
theorem q5 (P : PT) (N2 : NTy k1 Pr) : QB Try.prog T0 18 o5 (En 18 k2 (B4 P N2)) k1 (B5 P N2) := fun _ _ _ _ _ _  => by kernel_rfl
noncomputable def o6 := ob Try.f58 [.r,.r,.l,.r,.l,.l,.l]
def B6 (P : PT) (N2 : NTy k1 Pr) (x3 : Int) (x6 : Value) (x7 x8 : Int) (H : AHeap) : Prop :=
  pif (decide ((x8 : Int) < x7)) (B5 P N2 x3 x6 x7 x8 H) (B1 P x3 H)
theorem q6 (P : PT) (N2 : NTy k1 Pr) : QB Try.prog T0 18 o6 (cnd 9 (En 18 k1 (B5 P N2)) (En 18 k0 (B1 P))) k1 (B6 P N2) := fun _ _ _ _ _ _  => by kernel_rfl
def L2 (P : PT) (x3 : Int) (x6 : Value) (x7 x8 : Int) (H : AHeap) : Prop :=
  ∃ (I : NTy k1 Pr) (μ : NTy k1 (AHeap → Nat)), I x3 x6 x7 x8 H ∧ ∀ y3 y6 y7 y8 G, I y3 y6 y7 y8 G → B6 P (fun z3 z6 z7 z8 G' => I z3 z6 z7 z8 G' ∧ μ z3 z6 z7 z8 G' < μ y3 y6 y7 y8 G) y3 y6 y7 y8 G
theorem l2 (P : PT) : LQ k1 (L2 P) (B6 P) := fun ⟨_,_,_,_,_⟩ _ ⟨I, μ, h0, hI⟩ => ⟨apT _ I, apT _ μ, h0, fun ⟨_,_,_,_,_⟩ _ h => hI _ _ _ _ _  h⟩
abbrev k3 : Sk := [(0,.v),(3,.i .u64)]
noncomputable def o7 := ob Try.f58 [.r,.r,.l,.l]
def B7 (P : PT) (x0 : Value) (x3 : Int) (H : AHeap) : Prop :=
  lenK x0 (fun n1 => L2 P x3 x0 (n1 : Int) 0 H)
theorem q7 (P : PT) : QB Try.prog T0 18 o7 (En 18 k1 (L2 P)) k3 (B7 P) := fun _ _ _ _  => by kernel_rfl
abbrev k4 : Sk := [(0,.v)]
noncomputable def o8 := ob Try.f58 [.r,.l]
def B8 (P : PT) (x0 : Value) (H : AHeap) : Prop :=
  B7 P x0 0 H
theorem q8 (P : PT) : QB Try.prog T0 18 o8 (En 18 k3 (B7 P)) k4 (B8 P) := fun _ _ _  => by kernel_rfl
noncomputable def o9 := ob Try.f58 [.l]
def B9 (P : PT) (x0 : Value) (H : AHeap) : Prop :=
  B8 P x0 H
theorem q9 (P : PT) : QB Try.prog T0 18 o9 (En 18 k4 (B8 P)) k4 (B9 P) := fun _ _ _  => by kernel_rfl
noncomputable def code : Code := (.seq (.region 0 ⟨o9⟩ false) (.seq (.region 1 ⟨o8⟩ false) (.seq (.seq (.region 2 ⟨o7⟩ false) (.block 0 (.loop (.seq (.region 3 ⟨o6⟩ false) (.seq (.cond (.tmp 9) .skip (.exit 0)) (.seq (.block 1 (.seq (.region 4 ⟨o5⟩ false) (.region 5 ⟨o4⟩ false))) (.region 6 ⟨o3⟩ false))))))) (.seq (.region 7 ⟨o1⟩ false) .ret))))
theorem body : Try.f58.body = some code := by kernel_rfl
theorem main (P : PT) : ∀ env H, (En 18 k4 (B9 P)) env H → AW Try.prog T0 code env H (mkQ (ret P) (fun _ _ _ => False) (ret P)) :=
  (r_seq (rB T0_ok (q9 P)) (r_seq (rB T0_ok (q8 P)) (r_seq (r_seq (rB T0_ok (q7 P)) (r_block (rL (l2 P) (fun N2 => (r_seq (rB T0_ok (q6 P N2)) (r_seq (r_cond rfl r_skip (r_exit (fun _ _ h => h))) (r_seq (r_block (r_seq (rB T0_ok (q5 P N2)) (rB T0_ok (q4 P N2)))) (rB T0_ok (q3 P N2))))))))) (r_seq (rB T0_ok (q1 P)) r_ret))))
theorem ac (P : PT) (x0 : Value) (H : AHeap) (h : B9 P x0 H) : AC Try.prog T0 58 [x0] H P :=
  r_fn T0_ok (c := code) (n := 18) Try.func58 body (by kernel_rfl) (main P) (En_mk (x0, ()) (by kernel_rfl) ⟨by kernel_rfl, trivial⟩ h)

end F58
-- (loop.example/g01329/impl.set).size
namespace F66
noncomputable def ret (P : PT) : EP := retE T0 5 Try.f66 P
abbrev k0 : Sk := [(0,.i .u64)]
noncomputable def o1 := ob Try.f66 [.r,.l]
def B1 (P : PT) (x0 : Int) (H : AHeap) : Prop :=
  AC Try.prog T0 115 [(Value.int .u64 x0)] H (fun v1 H2 => asI .i64 v1 (fun v3 => P (Value.int .i64 v3) H2))
theorem q1 (P : PT) : QB Try.prog T0 5 o1 (ret P) k0 (B1 P) := fun _ _ _  => by kernel_rfl
noncomputable def o2 := ob Try.f66 [.l]
def B2 (P : PT) (x0 : Int) (H : AHeap) : Prop :=
  B1 P x0 H
theorem q2 (P : PT) : QB Try.prog T0 5 o2 (En 5 k0 (B1 P)) k0 (B2 P) := fun _ _ _  => by kernel_rfl
noncomputable def code : Code := (.seq (.region 0 ⟨o2⟩ false) (.seq (.region 1 ⟨o1⟩ false) .ret))
theorem body : Try.f66.body = some code := by kernel_rfl
theorem main (P : PT) : ∀ env H, (En 5 k0 (B2 P)) env H → AW Try.prog T0 code env H (mkQ (ret P) (fun _ _ _ => False) (ret P)) :=
  (r_seq (rB T0_ok (q2 P)) (r_seq (rB T0_ok (q1 P)) r_ret))
theorem ac (P : PT) (x0 : Int) (H : AHeap) (h : B2 P x0 H) : AC Try.prog T0 66 [(Value.int .u64 x0)] H P :=
  r_fn T0_ok (c := code) (n := 5) Try.func66 body (by kernel_rfl) (main P) (En_mk (x0, ()) (by kernel_rfl) ⟨by kernel_rfl, trivial⟩ h)

end F66
-- loop.example/g01329/spec.l01Is
namespace F73
noncomputable def ret (P : PT) : EP := retE T0 56 Try.f73 P
abbrev k0 : Sk := []
noncomputable def o1 := ob Try.f73 [.r,.r,.r,.l]
def B1 (P : PT) (H : AHeap) : Prop :=
  P (Value.bool true) H
theorem q1 (P : PT) : QB Try.prog T0 56 o1 (ret P) k0 (B1 P) := fun _ _  => by kernel_rfl
abbrev k1 : Sk := [(1,.x),(3,.i .i64)]
noncomputable def o3 := ob Try.f73 [.r,.r,.l,.r,.l,.l,.r,.r]
def B3 (P : PT) (N2 : NTy k1 Pr) (x1 : Nat) (x3 : Int) (H : AHeap) : Prop :=
  N2 x1 (IntKind.i64.wrap (x3 + 1)) H
theorem q3 (P : PT) (N2 : NTy k1 Pr) : QB Try.prog T0 56 o3 (En 56 k1 N2) k1 (B3 P N2) := fun _ _ _ _  => by kernel_rfl
noncomputable def o4 := ob Try.f73 [.r,.r,.l,.r,.l,.l,.r,.l,.l,.r,.l,.l]
def B4 (P : PT) (N2 : NTy k1 Pr) (H : AHeap) : Prop :=
  P (Value.bool false) H
theorem q4 (P : PT) (N2 : NTy k1 Pr) : QB Try.prog T0 56 o4 (ret P) k0 (B4 P N2) := fun _ _  => by kernel_rfl
noncomputable def o5 := ob Try.f73 [.r,.r,.l,.r,.l,.l,.r,.l,.l,.l]
def B5 (P : PT) (N2 : NTy k1 Pr) (x1 : Nat) (x3 : Int) (H : AHeap) : Prop :=
  ld1 H x1 1 (fun v1 => idxK v1 x3 2 (fun b2 o3 => ldI .i64 H b2 o3 (fun v4 => ld1 H x1 1 (fun v5 => idxK v5 x3 2 (fun b6 o7 => ldI .i64 H b6 (o7 + 1) (fun v8 => pif (decide ((v4 : Int) > v8)) (B4 P N2 H) (pif (decide ((x3 : Int) > 0)) (ld1 H x1 1 (fun v9 => idxK v9 x3 2 (fun b10 o11 => ldI .i64 H b10 o11 (fun v12 => ldI .i64 H b10 (o11 + 1) (fun v13 => ld1 H x1 1 (fun v14 => idxK v14 (IntKind.i64.wrap (x3 - 1)) 2 (fun b15 o16 => ldI .i64 H b15 o16 (fun v17 => ldI .i64 H b15 (o16 + 1) (fun v18 => AC Try.prog T0 129 [(Value.agg ⟨[(Value.int .i64 v12), (Value.int .i64 v13)]⟩), (Value.agg ⟨[(Value.int .i64 v17), (Value.int .i64 v18)]⟩)] H (fun v19 H20 => asB v19 (fun v21 => pif v21 (B4 P N2 H20) (B3 P N2 x1 x3 H20)))))))))))) (B3 P N2 x1 x3 H))))))))
theorem q5 (P : PT) (N2 : NTy k1 Pr) : QD Try.prog T0 56 o5 [(0, false), (1, false), (2, false), (3, false), (4, false), (5, false), (6, false), (7, false), (8, false), (9, false), (10, false), (11, false), (12, false), (13, false), (14, false), (15, false), (16, false), (17, false), (18, false), (19, false), (20, false), (21, false), (22, false), (23, false), (24, false), (25, false), (26, false), (27, false), (28, false), (29, false), (30, false)] (cnd 55 (En 56 k0 (B4 P N2)) (En 56 k1 (B3 P N2))) k1 (B5 P N2) := fun _ _ _ _  => by kernel_rfl
noncomputable def o6 := ob Try.f73 [.r,.r,.l,.r,.l,.l,.l,.l]
def B6 (P : PT) (N2 : NTy k1 Pr) (x1 : Nat) (x3 : Int) (H : AHeap) : Prop :=
  ld1 H x1 1 (fun v1 => lenK v1 (fun n2 => pif (decide ((x3 : Int) < (n2 : Int))) (B5 P N2 x1 x3 H) (B1 P H)))
theorem q6 (P : PT) (N2 : NTy k1 Pr) : QB Try.prog T0 56 o6 (cnd 22 (En 56 k1 (B5 P N2)) (En 56 k0 (B1 P))) k1 (B6 P N2) := fun _ _ _ _  => by kernel_rfl
def L2 (P : PT) (x1 : Nat) (x3 : Int) (H : AHeap) : Prop :=
  ∃ (I : NTy k1 Pr) (μ : NTy k1 (AHeap → Nat)), I x1 x3 H ∧ ∀ y1 y3 G, I y1 y3 G → B6 P (fun z1 z3 G' => I z1 z3 G' ∧ μ z1 z3 G' < μ y1 y3 G) y1 y3 G
theorem l2 (P : PT) : LQ k1 (L2 P) (B6 P) := fun ⟨_,_,_⟩ _ ⟨I, μ, h0, hI⟩ => ⟨apT _ I, apT _ μ, h0, fun ⟨_,_,_⟩ _ h => hI _ _ _  h⟩
abbrev k2 : Sk := [(1,.x)]
noncomputable def o7 := ob Try.f73 [.r,.r,.l,.l]
def B7 (P : PT) (x1 : Nat) (H : AHeap) : Prop :=
  L2 P x1 0 H
theorem q7 (P : PT) : QB Try.prog T0 56 o7 (En 56 k1 (L2 P)) k2 (B7 P) := fun _ _ _  => by kernel_rfl
noncomputable def o8 := ob Try.f73 [.r,.l,.r,.l,.l]
def B8 (P : PT) (H : AHeap) : Prop :=
  P (Value.bool false) H
theorem q8 (P : PT) : QB Try.prog T0 56 o8 (ret P) k0 (B8 P) := fun _ _  => by kernel_rfl
noncomputable def o9 := ob Try.f73 [.r,.l,.l]
def B9 (P : PT) (x1 : Nat) (H : AHeap) : Prop :=
  ldI .i64 H x1 0 (fun v1 => ld1 H x1 1 (fun v2 => AC Try.prog T0 127 [(Value.int .i64 v1), v2] H (fun v3 H4 => asI .i64 v3 (fun v5 => pif ((v5 : Int) != 0) (B8 P H4) (ldI .i64 H4 x1 0 (fun v6 => ld1 H4 x1 1 (fun v7 => AC Try.prog T0 128 [(Value.int .i64 v6), v7] H4 (fun v8 H9 => asB v8 (fun v10 => pif (!v10) (B8 P H9) (B7 P x1 H9))))))))))
theorem q9 (P : PT) : QB Try.prog T0 56 o9 (cnd 17 (En 56 k0 (B8 P)) (En 56 k2 (B7 P))) k2 (B9 P) := fun _ _ _  => by kernel_rfl
abbrev k3 : Sk := [(0,.g [.i,.v])]
noncomputable def o10 := ob Try.f73 [.l]
def B10 (P : PT) (x0a : Int) (x0b : Value) (H : AHeap) : Prop :=
  newK H [(Value.int .i64 x0a), x0b] 31 (fun b1 H2 => B9 P b1 H2)
theorem q10 (P : PT) : QB Try.prog T0 56 o10 (En 56 k2 (B9 P)) k3 (B10 P) := fun _ _ _ _  => by kernel_rfl
noncomputable def code : Code := (.seq (.region 0 ⟨o10⟩ false) (.seq (.seq (.region 1 ⟨o9⟩ false) (.cond (.tmp 17) (.seq (.region 2 ⟨o8⟩ false) .ret) .skip)) (.seq (.seq (.region 3 ⟨o7⟩ false) (.block 0 (.loop (.seq (.seq (.region 4 ⟨o6⟩ false) (.cond (.tmp 22) .skip (.exit 0))) (.seq (.block 1 (.seq (.region 6 ⟨o5⟩ true) (.cond (.tmp 55) (.seq (.region 7 ⟨o4⟩ false) .ret) .skip))) (.region 5 ⟨o3⟩ false)))))) (.seq (.region 8 ⟨o1⟩ false) .ret))))
theorem body : Try.f73.body = some code := by kernel_rfl
theorem main (P : PT) : ∀ env H, (En 56 k3 (B10 P)) env H → AW Try.prog T0 code env H (mkQ (ret P) (fun _ _ _ => False) (ret P)) :=
  (r_seq (rB T0_ok (q10 P)) (r_seq (r_seq (rB T0_ok (q9 P)) (r_cond rfl (r_seq (rB T0_ok (q8 P)) r_ret) r_skip)) (r_seq (r_seq (rB T0_ok (q7 P)) (r_block (rL (l2 P) (fun N2 => (r_seq (r_seq (rB T0_ok (q6 P N2)) (r_cond rfl r_skip (r_exit (fun _ _ h => h)))) (r_seq (r_block (r_seq (rD T0_ok mixed [(0, false), (1, false), (2, false), (3, false), (4, false), (5, false), (6, false), (7, false), (8, false), (9, false), (10, false), (11, false), (12, false), (13, false), (14, false), (15, false), (16, false), (17, false), (18, false), (19, false), (20, false), (21, false), (22, false), (23, false), (24, false), (25, false), (26, false), (27, false), (28, false), (29, false), (30, false)] (by kernel_rfl) (q5 P N2)) (r_cond rfl (r_seq (rB T0_ok (q4 P N2)) r_ret) r_skip))) (rB T0_ok (q3 P N2)))))))) (r_seq (rB T0_ok (q1 P)) r_ret))))
theorem ac (P : PT) (x0a : Int) (x0b : Value) (H : AHeap) (h : B10 P x0a x0b H) : AC Try.prog T0 73 [(Value.agg ⟨[(Value.int .i64 x0a), x0b]⟩)] H P :=
  r_fn T0_ok (c := code) (n := 56) Try.func73 body (by kernel_rfl) (main P) (En_mk (x0a, x0b, ()) (by kernel_rfl) ⟨by kernel_rfl, trivial⟩ h)

end F73
-- loop.example/g01329/laws.toEdge
namespace F76
noncomputable def ret (P : PT) : EP := retE T0 15 Try.f76 P
abbrev k0 : Sk := [(2,.x),(3,.x)]
noncomputable def o1 := ob Try.f76 [.r,.r,.r,.l]
def B1 (P : PT) (x2 x3 : Nat) (H : AHeap) : Prop :=
  ldI .i64 H x3 0 (fun v1 => ldI .i64 H x3 1 (fun v2 => stK H x2 0 [(Value.int .i64 v1), (Value.int .i64 v2)] (fun H3 => ldI .i64 H3 x2 0 (fun v4 => ldI .i64 H3 x2 1 (fun v5 => P (Value.agg ⟨[(Value.int .i64 v4), (Value.int .i64 v5)]⟩) H3)))))
theorem q1 (P : PT) : QB Try.prog T0 15 o1 (ret P) k0 (B1 P) := fun _ _ _ _  => by kernel_rfl
abbrev k1 : Sk := [(1,.x),(2,.x),(3,.x),(4,.i .i64)]
noncomputable def o3 := ob Try.f76 [.r,.r,.l,.r,.l,.l,.r,.r]
def B3 (P : PT) (N2 : NTy k1 Pr) (x1 x2 x3 : Nat) (x4 : Int) (H : AHeap) : Prop :=
  N2 x1 x2 x3 (IntKind.i64.wrap (x4 + 1)) H
theorem q3 (P : PT) (N2 : NTy k1 Pr) : QB Try.prog T0 15 o3 (En 15 k1 N2) k1 (B3 P N2) := fun _ _ _ _ _ _  => by kernel_rfl
noncomputable def o4 := ob Try.f76 [.r,.r,.l,.r,.l,.l,.r,.l,.l]
def B4 (P : PT) (N2 : NTy k1 Pr) (x1 x2 x3 : Nat) (x4 : Int) (H : AHeap) : Prop :=
  bndK x4 2 (ldI .i64 H x1 (0 + Int.toNat x4 * 1) (fun v1 => bndK x4 2 (stK H x3 (0 + Int.toNat x4 * 1) [(Value.int .i64 v1)] (fun H2 => B3 P N2 x1 x2 x3 x4 H2))))
theorem q4 (P : PT) (N2 : NTy k1 Pr) : QB Try.prog T0 15 o4 (En 15 k1 (B3 P N2)) k1 (B4 P N2) := fun _ _ _ _ _ _  => by kernel_rfl
noncomputable def o5 := ob Try.f76 [.r,.r,.l,.r,.l,.l,.l,.l]
def B5 (P : PT) (N2 : NTy k1 Pr) (x1 x2 x3 : Nat) (x4 : Int) (H : AHeap) : Prop :=
  pif (decide ((x4 : Int) < 2)) (B4 P N2 x1 x2 x3 x4 H) (B1 P x2 x3 H)
theorem q5 (P : PT) (N2 : NTy k1 Pr) : QB Try.prog T0 15 o5 (cnd 6 (En 15 k1 (B4 P N2)) (En 15 k0 (B1 P))) k1 (B5 P N2) := fun _ _ _ _ _ _  => by kernel_rfl
def L2 (P : PT) (x1 x2 x3 : Nat) (x4 : Int) (H : AHeap) : Prop :=
  ∃ (I : NTy k1 Pr) (μ : NTy k1 (AHeap → Nat)), I x1 x2 x3 x4 H ∧ ∀ y1 y2 y3 y4 G, I y1 y2 y3 y4 G → B5 P (fun z1 z2 z3 z4 G' => I z1 z2 z3 z4 G' ∧ μ z1 z2 z3 z4 G' < μ y1 y2 y3 y4 G) y1 y2 y3 y4 G
theorem l2 (P : PT) : LQ k1 (L2 P) (B5 P) := fun ⟨_,_,_,_,_⟩ _ ⟨I, μ, h0, hI⟩ => ⟨apT _ I, apT _ μ, h0, fun ⟨_,_,_,_,_⟩ _ h => hI _ _ _ _ _  h⟩
abbrev k2 : Sk := [(1,.x),(2,.x),(3,.x)]
noncomputable def o6 := ob Try.f76 [.r,.r,.l,.l]
def B6 (P : PT) (x1 x2 x3 : Nat) (H : AHeap) : Prop :=
  L2 P x1 x2 x3 0 H
theorem q6 (P : PT) : QB Try.prog T0 15 o6 (En 15 k1 (L2 P)) k2 (B6 P) := fun _ _ _ _ _  => by kernel_rfl
abbrev k3 : Sk := [(1,.x),(2,.x)]
noncomputable def o7 := ob Try.f76 [.r,.l]
def B7 (P : PT) (x1 x2 : Nat) (H : AHeap) : Prop :=
  newK H [(Value.int .i64 0), (Value.int .i64 0)] 67 (fun b1 H2 => B6 P x1 x2 b1 H2)
theorem q7 (P : PT) : QB Try.prog T0 15 o7 (En 15 k2 (B6 P)) k3 (B7 P) := fun _ _ _ _  => by kernel_rfl
abbrev k4 : Sk := [(0,.g [.i,.i])]
noncomputable def o8 := ob Try.f76 [.l]
def B8 (P : PT) (x0a x0b : Int) (H : AHeap) : Prop :=
  newK H [(Value.int .i64 x0a), (Value.int .i64 x0b)] 66 (fun b1 H2 => newK H2 [(Value.int .i64 0), (Value.int .i64 0)] 67 (fun b3 H4 => B7 P b1 b3 H4))
theorem q8 (P : PT) : QB Try.prog T0 15 o8 (En 15 k3 (B7 P)) k4 (B8 P) := fun _ _ _ _  => by kernel_rfl
noncomputable def code : Code := (.seq (.region 0 ⟨o8⟩ false) (.seq (.region 1 ⟨o7⟩ false) (.seq (.seq (.region 2 ⟨o6⟩ false) (.block 0 (.loop (.seq (.seq (.region 3 ⟨o5⟩ false) (.cond (.tmp 6) .skip (.exit 0))) (.seq (.block 1 (.region 5 ⟨o4⟩ false)) (.region 4 ⟨o3⟩ false)))))) (.seq (.region 6 ⟨o1⟩ false) .ret))))
theorem body : Try.f76.body = some code := by kernel_rfl
theorem main (P : PT) : ∀ env H, (En 15 k4 (B8 P)) env H → AW Try.prog T0 code env H (mkQ (ret P) (fun _ _ _ => False) (ret P)) :=
  (r_seq (rB T0_ok (q8 P)) (r_seq (rB T0_ok (q7 P)) (r_seq (r_seq (rB T0_ok (q6 P)) (r_block (rL (l2 P) (fun N2 => (r_seq (r_seq (rB T0_ok (q5 P N2)) (r_cond rfl r_skip (r_exit (fun _ _ h => h)))) (r_seq (r_block (rB T0_ok (q4 P N2))) (rB T0_ok (q3 P N2)))))))) (r_seq (rB T0_ok (q1 P)) r_ret))))
theorem ac (P : PT) (x0a x0b : Int) (H : AHeap) (h : B8 P x0a x0b H) : AC Try.prog T0 76 [(Value.agg ⟨[(Value.int .i64 x0a), (Value.int .i64 x0b)]⟩)] H P :=
  r_fn T0_ok (c := code) (n := 15) Try.func76 body (by kernel_rfl) (main P) (En_mk (x0a, x0b, ()) (by kernel_rfl) ⟨by kernel_rfl, trivial⟩ h)

end F76
-- loop.example/g01329/impl.IsGraph
namespace F77
noncomputable def ret (P : PT) : EP := retE T0 25 Try.f77 P
abbrev k0 : Sk := [(1,.x)]
noncomputable def o1 := ob Try.f77 [.r,.l]
def B1 (P : PT) (x1 : Nat) (H : AHeap) : Prop :=
  ldI .i64 H x1 0 (fun v1 => ld1 H x1 1 (fun v2 => AC Try.prog T0 131 [(Value.int .i64 v1), v2] H (fun v3 H4 => asB v3 (fun v5 => pif v5 (ld1 H4 x1 1 (fun v6 => AC Try.prog T0 132 [v6, (Value.func (.func 133) ⟨[]⟩ ⟨[]⟩)] H4 (fun v7 H8 => asB v7 (fun v9 => pif v9 (ld1 H8 x1 1 (fun v10 => AC Try.prog T0 134 [v10, (Value.func (.func 135) ⟨[]⟩ ⟨[]⟩)] H8 (fun v11 H12 => asB v11 (fun v13 => pif v13 (ldI .i64 H12 x1 0 (fun v14 => ld1 H12 x1 1 (fun v15 => AC Try.prog T0 136 [(Value.int .i64 v14), v15] H12 (fun v16 H17 => asB v16 (fun v18 => P (Value.bool v18) H17))))) (P (Value.bool false) H12))))) (P (Value.bool false) H8))))) (P (Value.bool false) H4)))))
theorem q1 (P : PT) : QB Try.prog T0 25 o1 (ret P) k0 (B1 P) := fun _ _ _  => by kernel_rfl
abbrev k1 : Sk := [(0,.g [.i,.v])]
noncomputable def o2 := ob Try.f77 [.l]
def B2 (P : PT) (x0a : Int) (x0b : Value) (H : AHeap) : Prop :=
  newK H [(Value.int .i64 x0a), x0b] 31 (fun b1 H2 => B1 P b1 H2)
theorem q2 (P : PT) : QB Try.prog T0 25 o2 (En 25 k0 (B1 P)) k1 (B2 P) := fun _ _ _ _  => by kernel_rfl
noncomputable def code : Code := (.seq (.region 0 ⟨o2⟩ false) (.seq (.region 1 ⟨o1⟩ false) .ret))
theorem body : Try.f77.body = some code := by kernel_rfl
theorem main (P : PT) : ∀ env H, (En 25 k1 (B2 P)) env H → AW Try.prog T0 code env H (mkQ (ret P) (fun _ _ _ => False) (ret P)) :=
  (r_seq (rB T0_ok (q2 P)) (r_seq (rB T0_ok (q1 P)) r_ret))
theorem ac (P : PT) (x0a : Int) (x0b : Value) (H : AHeap) (h : B2 P x0a x0b H) : AC Try.prog T0 77 [(Value.agg ⟨[(Value.int .i64 x0a), x0b]⟩)] H P :=
  r_fn T0_ok (c := code) (n := 25) Try.func77 body (by kernel_rfl) (main P) (En_mk (x0a, x0b, ()) (by kernel_rfl) ⟨by kernel_rfl, trivial⟩ h)

end F77
-- (loop.example/g01329/impl.set).has
namespace F79
noncomputable def ret (P : PT) : EP := retE T0 10 Try.f79 P
abbrev k0 : Sk := [(0,.i .u64),(1,.i .i64)]
noncomputable def o1 := ob Try.f79 [.r,.l]
def B1 (P : PT) (x0 x1 : Int) (H : AHeap) : Prop :=
  ((0 : Int) ≤ x1) ∧ (P (Value.bool ((IntKind.u64.wrap (BitVec.ofInt 64 (Int.fdiv x0 (2 ^ (min (Int.toNat x1) 64))) &&& BitVec.ofInt 64 1).toNat : Int) == 1)) H)
theorem q1 (P : PT) : QB Try.prog T0 10 o1 (ret P) k0 (B1 P) := fun _ _ _ _  => by kernel_rfl
noncomputable def o2 := ob Try.f79 [.l]
def B2 (P : PT) (x0 x1 : Int) (H : AHeap) : Prop :=
  B1 P x0 x1 H
theorem q2 (P : PT) : QB Try.prog T0 10 o2 (En 10 k0 (B1 P)) k0 (B2 P) := fun _ _ _ _  => by kernel_rfl
noncomputable def code : Code := (.seq (.region 0 ⟨o2⟩ false) (.seq (.region 1 ⟨o1⟩ false) .ret))
theorem body : Try.f79.body = some code := by kernel_rfl
theorem main (P : PT) : ∀ env H, (En 10 k0 (B2 P)) env H → AW Try.prog T0 code env H (mkQ (ret P) (fun _ _ _ => False) (ret P)) :=
  (r_seq (rB T0_ok (q2 P)) (r_seq (rB T0_ok (q1 P)) r_ret))
theorem ac (P : PT) (x0 x1 : Int) (H : AHeap) (h : B2 P x0 x1 H) : AC Try.prog T0 79 [(Value.int .u64 x0), (Value.int .i64 x1)] H P :=
  r_fn T0_ok (c := code) (n := 10) Try.func79 body (by kernel_rfl) (main P) (En_mk (x0, x1, ()) (by kernel_rfl) ⟨by kernel_rfl, by kernel_rfl, trivial⟩ h)

end F79
-- (loop.example/g01329/impl.set).list
namespace F82
noncomputable def ret (P : PT) : EP := retE T0 19 Try.f82 P
abbrev k0 : Sk := [(3,.v)]
noncomputable def o1 := ob Try.f82 [.r,.r,.r,.l]
def B1 (P : PT) (x3 : Value) (H : AHeap) : Prop :=
  P x3 H
theorem q1 (P : PT) : QB Try.prog T0 19 o1 (ret P) k0 (B1 P) := fun _ _ _  => by kernel_rfl
abbrev k1 : Sk := [(0,.i .u64),(3,.v),(4,.i .i64)]
noncomputable def o3 := ob Try.f82 [.r,.r,.l,.r,.l,.l,.r,.r]
def B3 (P : PT) (N2 : NTy k1 Pr) (x0 : Int) (x3 : Value) (x4 : Int) (H : AHeap) : Prop :=
  N2 x0 x3 (IntKind.i64.wrap (x4 + 1)) H
theorem q3 (P : PT) (N2 : NTy k1 Pr) : QB Try.prog T0 19 o3 (En 19 k1 N2) k1 (B3 P N2) := fun _ _ _ _ _  => by kernel_rfl
noncomputable def o4 := ob Try.f82 [.r,.r,.l,.r,.l,.l,.r,.l,.l,.r,.l]
def B4 (P : PT) (N2 : NTy k1 Pr) (x0 : Int) (x3 : Value) (x4 : Int) (H : AHeap) : Prop :=
  newK H [(Value.int .i64 x4)] 2 (fun b1 H2 => apK T0 2 H2 x3 (Value.slice (some ⟨b1, 0, none⟩) 1 (1 + 1)) (fun v3 H4 => B3 P N2 x0 v3 x4 H4))
theorem q4 (P : PT) (N2 : NTy k1 Pr) : QB Try.prog T0 19 o4 (En 19 k1 (B3 P N2)) k1 (B4 P N2) := fun _ _ _ _ _  => by kernel_rfl
noncomputable def o5 := ob Try.f82 [.r,.r,.l,.r,.l,.l,.r,.l,.l,.l]
def B5 (P : PT) (N2 : NTy k1 Pr) (x0 : Int) (x3 : Value) (x4 : Int) (H : AHeap) : Prop :=
  AC Try.prog T0 79 [(Value.int .u64 x0), (Value.int .i64 x4)] H (fun v1 H2 => asB v1 (fun v3 => pif v3 (B4 P N2 x0 x3 x4 H2) (B3 P N2 x0 x3 x4 H2)))
theorem q5 (P : PT) (N2 : NTy k1 Pr) : QB Try.prog T0 19 o5 (cnd 13 (En 19 k1 (B4 P N2)) (En 19 k1 (B3 P N2))) k1 (B5 P N2) := fun _ _ _ _ _  => by kernel_rfl
noncomputable def o6 := ob Try.f82 [.r,.r,.l,.r,.l,.l,.l,.l]
def B6 (P : PT) (N2 : NTy k1 Pr) (x0 : Int) (x3 : Value) (x4 : Int) (H : AHeap) : Prop :=
  ((0 : Int) ≤ x4) ∧ (pif ((Int.fdiv x0 (2 ^ (min (Int.toNat x4) 64)) : Int) != 0) (B5 P N2 x0 x3 x4 H) (B1 P x3 H))
theorem q6 (P : PT) (N2 : NTy k1 Pr) : QB Try.prog T0 19 o6 (cnd 8 (En 19 k1 (B5 P N2)) (En 19 k0 (B1 P))) k1 (B6 P N2) := fun _ _ _ _ _  => by kernel_rfl
def L2 (P : PT) (x0 : Int) (x3 : Value) (x4 : Int) (H : AHeap) : Prop :=
  ∃ (I : NTy k1 Pr) (μ : NTy k1 (AHeap → Nat)), I x0 x3 x4 H ∧ ∀ y0 y3 y4 G, I y0 y3 y4 G → B6 P (fun z0 z3 z4 G' => I z0 z3 z4 G' ∧ μ z0 z3 z4 G' < μ y0 y3 y4 G) y0 y3 y4 G
theorem l2 (P : PT) : LQ k1 (L2 P) (B6 P) := fun ⟨_,_,_,_⟩ _ ⟨I, μ, h0, hI⟩ => ⟨apT _ I, apT _ μ, h0, fun ⟨_,_,_,_⟩ _ h => hI _ _ _ _  h⟩
abbrev k2 : Sk := [(0,.i .u64),(3,.v)]
noncomputable def o7 := ob Try.f82 [.r,.r,.l,.l]
def B7 (P : PT) (x0 : Int) (x3 : Value) (H : AHeap) : Prop :=
  L2 P x0 x3 0 H
theorem q7 (P : PT) : QB Try.prog T0 19 o7 (En 19 k1 (L2 P)) k2 (B7 P) := fun _ _ _ _  => by kernel_rfl
abbrev k3 : Sk := [(0,.i .u64)]
noncomputable def o8 := ob Try.f82 [.r,.l]
def B8 (P : PT) (x0 : Int) (H : AHeap) : Prop :=
  B7 P x0 (Value.slice none 0 0) H
theorem q8 (P : PT) : QB Try.prog T0 19 o8 (En 19 k2 (B7 P)) k3 (B8 P) := fun _ _ _  => by kernel_rfl
noncomputable def o9 := ob Try.f82 [.l]
def B9 (P : PT) (x0 : Int) (H : AHeap) : Prop :=
  B8 P x0 H
theorem q9 (P : PT) : QB Try.prog T0 19 o9 (En 19 k3 (B8 P)) k3 (B9 P) := fun _ _ _  => by kernel_rfl
noncomputable def code : Code := (.seq (.region 0 ⟨o9⟩ false) (.seq (.region 1 ⟨o8⟩ false) (.seq (.seq (.region 2 ⟨o7⟩ false) (.block 0 (.loop (.seq (.seq (.region 3 ⟨o6⟩ false) (.cond (.tmp 8) .skip (.exit 0))) (.seq (.block 1 (.seq (.region 5 ⟨o5⟩ false) (.cond (.tmp 13) (.region 6 ⟨o4⟩ false) .skip))) (.region 4 ⟨o3⟩ false)))))) (.seq (.region 7 ⟨o1⟩ false) .ret))))
theorem body : Try.f82.body = some code := by kernel_rfl
theorem main (P : PT) : ∀ env H, (En 19 k3 (B9 P)) env H → AW Try.prog T0 code env H (mkQ (ret P) (fun _ _ _ => False) (ret P)) :=
  (r_seq (rB T0_ok (q9 P)) (r_seq (rB T0_ok (q8 P)) (r_seq (r_seq (rB T0_ok (q7 P)) (r_block (rL (l2 P) (fun N2 => (r_seq (r_seq (rB T0_ok (q6 P N2)) (r_cond rfl r_skip (r_exit (fun _ _ h => h)))) (r_seq (r_block (r_seq (rB T0_ok (q5 P N2)) (r_cond rfl (rB T0_ok (q4 P N2)) r_skip))) (rB T0_ok (q3 P N2)))))))) (r_seq (rB T0_ok (q1 P)) r_ret))))
theorem ac (P : PT) (x0 : Int) (H : AHeap) (h : B9 P x0 H) : AC Try.prog T0 82 [(Value.int .u64 x0)] H P :=
  r_fn T0_ok (c := code) (n := 19) Try.func82 body (by kernel_rfl) (main P) (En_mk (x0, ()) (by kernel_rfl) ⟨by kernel_rfl, trivial⟩ h)

end F82
-- loop.example/g01329/laws.eqEdge
namespace F83
noncomputable def ret (P : PT) : EP := retE T0 17 Try.f83 P
abbrev k0 : Sk := []
noncomputable def o1 := ob Try.f83 [.r,.r,.l]
def B1 (P : PT) (H : AHeap) : Prop :=
  P (Value.bool true) H
theorem q1 (P : PT) : QB Try.prog T0 17 o1 (ret P) k0 (B1 P) := fun _ _  => by kernel_rfl
abbrev k1 : Sk := [(2,.x),(3,.x),(5,.i .i64)]
noncomputable def o3 := ob Try.f83 [.r,.l,.r,.l,.l,.r,.r]
def B3 (P : PT) (N2 : NTy k1 Pr) (x2 x3 : Nat) (x5 : Int) (H : AHeap) : Prop :=
  N2 x2 x3 (IntKind.i64.wrap (x5 + 1)) H
theorem q3 (P : PT) (N2 : NTy k1 Pr) : QB Try.prog T0 17 o3 (En 17 k1 N2) k1 (B3 P N2) := fun _ _ _ _ _  => by kernel_rfl
noncomputable def o4 := ob Try.f83 [.r,.l,.r,.l,.l,.r,.l,.l,.r,.l,.l]
def B4 (P : PT) (N2 : NTy k1 Pr) (H : AHeap) : Prop :=
  P (Value.bool false) H
theorem q4 (P : PT) (N2 : NTy k1 Pr) : QB Try.prog T0 17 o4 (ret P) k0 (B4 P N2) := fun _ _  => by kernel_rfl
noncomputable def o5 := ob Try.f83 [.r,.l,.r,.l,.l,.r,.l,.l,.l]
def B5 (P : PT) (N2 : NTy k1 Pr) (x2 x3 : Nat) (x5 : Int) (H : AHeap) : Prop :=
  bndK x5 2 (ldI .i64 H x2 (0 + Int.toNat x5 * 1) (fun v1 => bndK x5 2 (ldI .i64 H x3 (0 + Int.toNat x5 * 1) (fun v2 => pif ((v1 : Int) != v2) (B4 P N2 H) (B3 P N2 x2 x3 x5 H)))))
theorem q5 (P : PT) (N2 : NTy k1 Pr) : QD Try.prog T0 17 o5 [(0, false), (1, false), (2, false), (3, false), (4, false), (5, false), (6, false)] (cnd 16 (En 17 k0 (B4 P N2)) (En 17 k1 (B3 P N2))) k1 (B5 P N2) := fun _ _ _ _ _  => by kernel_rfl
noncomputable def o6 := ob Try.f83 [.r,.l,.r,.l,.l,.l,.l]
def B6 (P : PT) (N2 : NTy k1 Pr) (x2 x3 : Nat) (x5 : Int) (H : AHeap) : Prop :=
  pif (decide ((x5 : Int) < 2)) (B5 P N2 x2 x3 x5 H) (B1 P H)
theorem q6 (P : PT) (N2 : NTy k1 Pr) : QB Try.prog T0 17 o6 (cnd 7 (En 17 k1 (B5 P N2)) (En 17 k0 (B1 P))) k1 (B6 P N2) := fun _ _ _ _ _  => by kernel_rfl
def L2 (P : PT) (x2 x3 : Nat) (x5 : Int) (H : AHeap) : Prop :=
  ∃ (I : NTy k1 Pr) (μ : NTy k1 (AHeap → Nat)), I x2 x3 x5 H ∧ ∀ y2 y3 y5 G, I y2 y3 y5 G → B6 P (fun z2 z3 z5 G' => I z2 z3 z5 G' ∧ μ z2 z3 z5 G' < μ y2 y3 y5 G) y2 y3 y5 G
theorem l2 (P : PT) : LQ k1 (L2 P) (B6 P) := fun ⟨_,_,_,_⟩ _ ⟨I, μ, h0, hI⟩ => ⟨apT _ I, apT _ μ, h0, fun ⟨_,_,_,_⟩ _ h => hI _ _ _ _  h⟩
abbrev k2 : Sk := [(2,.x),(3,.x)]
noncomputable def o7 := ob Try.f83 [.r,.l,.l]
def B7 (P : PT) (x2 x3 : Nat) (H : AHeap) : Prop :=
  L2 P x2 x3 0 H
theorem q7 (P : PT) : QB Try.prog T0 17 o7 (En 17 k1 (L2 P)) k2 (B7 P) := fun _ _ _ _  => by kernel_rfl
abbrev k3 : Sk := [(0,.g [.i,.i]),(1,.g [.i,.i])]
noncomputable def o8 := ob Try.f83 [.l]
def B8 (P : PT) (x0a x0b x1a x1b : Int) (H : AHeap) : Prop :=
  newK H [(Value.int .i64 x0a), (Value.int .i64 x0b)] 67 (fun b1 H2 => newK H2 [(Value.int .i64 x1a), (Value.int .i64 x1b)] 67 (fun b3 H4 => B7 P b1 b3 H4))
theorem q8 (P : PT) : QB Try.prog T0 17 o8 (En 17 k2 (B7 P)) k3 (B8 P) := fun _ _ _ _ _ _  => by kernel_rfl
noncomputable def code : Code := (.seq (.region 0 ⟨o8⟩ false) (.seq (.seq (.region 1 ⟨o7⟩ false) (.block 0 (.loop (.seq (.seq (.region 2 ⟨o6⟩ false) (.cond (.tmp 7) .skip (.exit 0))) (.seq (.block 1 (.seq (.region 4 ⟨o5⟩ true) (.cond (.tmp 16) (.seq (.region 5 ⟨o4⟩ false) .ret) .skip))) (.region 3 ⟨o3⟩ false)))))) (.seq (.region 6 ⟨o1⟩ false) .ret)))
theorem body : Try.f83.body = some code := by kernel_rfl
theorem main (P : PT) : ∀ env H, (En 17 k3 (B8 P)) env H → AW Try.prog T0 code env H (mkQ (ret P) (fun _ _ _ => False) (ret P)) :=
  (r_seq (rB T0_ok (q8 P)) (r_seq (r_seq (rB T0_ok (q7 P)) (r_block (rL (l2 P) (fun N2 => (r_seq (r_seq (rB T0_ok (q6 P N2)) (r_cond rfl r_skip (r_exit (fun _ _ h => h)))) (r_seq (r_block (r_seq (rD T0_ok mixed [(0, false), (1, false), (2, false), (3, false), (4, false), (5, false), (6, false)] (by kernel_rfl) (q5 P N2)) (r_cond rfl (r_seq (rB T0_ok (q4 P N2)) r_ret) r_skip))) (rB T0_ok (q3 P N2)))))))) (r_seq (rB T0_ok (q1 P)) r_ret)))
theorem ac (P : PT) (x0a x0b x1a x1b : Int) (H : AHeap) (h : B8 P x0a x0b x1a x1b H) : AC Try.prog T0 83 [(Value.agg ⟨[(Value.int .i64 x0a), (Value.int .i64 x0b)]⟩), (Value.agg ⟨[(Value.int .i64 x1a), (Value.int .i64 x1b)]⟩)] H P :=
  r_fn T0_ok (c := code) (n := 17) Try.func83 body (by kernel_rfl) (main P) (En_mk (x0a, x0b, x1a, x1b, ()) (by kernel_rfl) ⟨by kernel_rfl, by kernel_rfl, trivial⟩ h)

end F83
-- loop.example/g01329/spec.l03Set
namespace F84
noncomputable def ret (P : PT) : EP := retE T0 36 Try.f84 P
abbrev k0 : Sk := []
noncomputable def o1 := ob Try.f84 [.r,.r,.l]
def B1 (P : PT) (H : AHeap) : Prop :=
  P (Value.int .i64 0) H
theorem q1 (P : PT) : QB Try.prog T0 36 o1 (ret P) k0 (B1 P) := fun _ _  => by kernel_rfl
abbrev k1 : Sk := [(0,.v),(1,.i .i64),(5,.i .i64)]
noncomputable def o3 := ob Try.f84 [.r,.l,.r,.l,.l,.r,.r]
def B3 (P : PT) (N2 : NTy k1 Pr) (x0 : Value) (x1 x5 : Int) (H : AHeap) : Prop :=
  N2 x0 x1 (IntKind.i64.wrap (x5 + 1)) H
theorem q3 (P : PT) (N2 : NTy k1 Pr) : QB Try.prog T0 36 o3 (En 36 k1 N2) k1 (B3 P N2) := fun _ _ _ _ _  => by kernel_rfl
noncomputable def o4 := ob Try.f84 [.r,.l,.r,.l,.l,.r,.l,.l,.r,.l,.l]
def B4 (P : PT) (N2 : NTy k1 Pr) (H : AHeap) : Prop :=
  P (Value.int .i64 2) H
theorem q4 (P : PT) (N2 : NTy k1 Pr) : QB Try.prog T0 36 o4 (ret P) k0 (B4 P N2) := fun _ _  => by kernel_rfl
noncomputable def o5 := ob Try.f84 [.r,.l,.r,.l,.l,.r,.l,.l,.l]
def B5 (P : PT) (N2 : NTy k1 Pr) (x0 : Value) (x1 x5 : Int) (H : AHeap) : Prop :=
  idxK x0 x5 1 (fun b1 o2 => ldI .i64 H b1 o2 (fun v3 => AC Try.prog T0 49 [(Value.int .i64 v3), (Value.int .i64 0), (Value.int .i64 (IntKind.i64.wrap (x1 - 1)))] H (fun v4 H5 => asB v4 (fun v6 => pif (!v6) (B4 P N2 H5) (pif (decide ((x5 : Int) > 0)) (idxK x0 x5 1 (fun b7 o8 => ldI .i64 H5 b7 o8 (fun v9 => idxK x0 (IntKind.i64.wrap (x5 - 1)) 1 (fun b10 o11 => ldI .i64 H5 b10 o11 (fun v12 => pif (decide ((v9 : Int) ≤ v12)) (B4 P N2 H5) (B3 P N2 x0 x1 x5 H5)))))) (B3 P N2 x0 x1 x5 H5))))))
theorem q5 (P : PT) (N2 : NTy k1 Pr) : QD Try.prog T0 36 o5 [(0, false), (1, false), (2, false), (3, false), (4, false), (5, false), (6, false), (7, false), (8, false), (9, false), (10, false), (11, false), (12, false), (13, false), (14, false), (15, false), (16, false), (17, false), (18, false), (19, false), (20, false), (21, false), (22, false), (23, false)] (cnd 35 (En 36 k0 (B4 P N2)) (En 36 k1 (B3 P N2))) k1 (B5 P N2) := fun _ _ _ _ _  => by kernel_rfl
noncomputable def o6 := ob Try.f84 [.r,.l,.r,.l,.l,.l,.l]
def B6 (P : PT) (N2 : NTy k1 Pr) (x0 : Value) (x1 x5 : Int) (H : AHeap) : Prop :=
  lenK x0 (fun n1 => pif (decide ((x5 : Int) < (n1 : Int))) (B5 P N2 x0 x1 x5 H) (B1 P H))
theorem q6 (P : PT) (N2 : NTy k1 Pr) : QB Try.prog T0 36 o6 (cnd 9 (En 36 k1 (B5 P N2)) (En 36 k0 (B1 P))) k1 (B6 P N2) := fun _ _ _ _ _  => by kernel_rfl
def L2 (P : PT) (x0 : Value) (x1 x5 : Int) (H : AHeap) : Prop :=
  ∃ (I : NTy k1 Pr) (μ : NTy k1 (AHeap → Nat)), I x0 x1 x5 H ∧ ∀ y0 y1 y5 G, I y0 y1 y5 G → B6 P (fun z0 z1 z5 G' => I z0 z1 z5 G' ∧ μ z0 z1 z5 G' < μ y0 y1 y5 G) y0 y1 y5 G
theorem l2 (P : PT) : LQ k1 (L2 P) (B6 P) := fun ⟨_,_,_,_⟩ _ ⟨I, μ, h0, hI⟩ => ⟨apT _ I, apT _ μ, h0, fun ⟨_,_,_,_⟩ _ h => hI _ _ _ _  h⟩
abbrev k2 : Sk := [(0,.v),(1,.i .i64)]
noncomputable def o7 := ob Try.f84 [.r,.l,.l]
def B7 (P : PT) (x0 : Value) (x1 : Int) (H : AHeap) : Prop :=
  L2 P x0 x1 0 H
theorem q7 (P : PT) : QB Try.prog T0 36 o7 (En 36 k1 (L2 P)) k2 (B7 P) := fun _ _ _ _  => by kernel_rfl
noncomputable def o8 := ob Try.f84 [.l]
def B8 (P : PT) (x0 : Value) (x1 : Int) (H : AHeap) : Prop :=
  B7 P x0 x1 H
theorem q8 (P : PT) : QB Try.prog T0 36 o8 (En 36 k2 (B7 P)) k2 (B8 P) := fun _ _ _ _  => by kernel_rfl
noncomputable def code : Code := (.seq (.region 0 ⟨o8⟩ false) (.seq (.seq (.region 1 ⟨o7⟩ false) (.block 0 (.loop (.seq (.seq (.region 2 ⟨o6⟩ false) (.cond (.tmp 9) .skip (.exit 0))) (.seq (.block 1 (.seq (.region 4 ⟨o5⟩ true) (.cond (.tmp 35) (.seq (.region 5 ⟨o4⟩ false) .ret) .skip))) (.region 3 ⟨o3⟩ false)))))) (.seq (.region 6 ⟨o1⟩ false) .ret)))
theorem body : Try.f84.body = some code := by kernel_rfl
theorem main (P : PT) : ∀ env H, (En 36 k2 (B8 P)) env H → AW Try.prog T0 code env H (mkQ (ret P) (fun _ _ _ => False) (ret P)) :=
  (r_seq (rB T0_ok (q8 P)) (r_seq (r_seq (rB T0_ok (q7 P)) (r_block (rL (l2 P) (fun N2 => (r_seq (r_seq (rB T0_ok (q6 P N2)) (r_cond rfl r_skip (r_exit (fun _ _ h => h)))) (r_seq (r_block (r_seq (rD T0_ok mixed [(0, false), (1, false), (2, false), (3, false), (4, false), (5, false), (6, false), (7, false), (8, false), (9, false), (10, false), (11, false), (12, false), (13, false), (14, false), (15, false), (16, false), (17, false), (18, false), (19, false), (20, false), (21, false), (22, false), (23, false)] (by kernel_rfl) (q5 P N2)) (r_cond rfl (r_seq (rB T0_ok (q4 P N2)) r_ret) r_skip))) (rB T0_ok (q3 P N2)))))))) (r_seq (rB T0_ok (q1 P)) r_ret)))
theorem ac (P : PT) (x0 : Value) (x1 : Int) (H : AHeap) (h : B8 P x0 x1 H) : AC Try.prog T0 84 [x0, (Value.int .i64 x1)] H P :=
  r_fn T0_ok (c := code) (n := 36) Try.func84 body (by kernel_rfl) (main P) (En_mk (x0, x1, ()) (by kernel_rfl) ⟨by kernel_rfl, by kernel_rfl, trivial⟩ h)

end F84
-- loop.example/g01329/spec.l07Cycle
namespace F85
noncomputable def ret (P : PT) : EP := retE T0 20 Try.f85 P
abbrev k0 : Sk := [(1,.v),(2,.x)]
noncomputable def o1 := ob Try.f85 [.r,.l]
def B1 (P : PT) (x1 : Value) (x2 : Nat) (H : AHeap) : Prop :=
  lenK x1 (fun n1 => pif (decide (((n1 : Int) : Int) > 0)) (ldI .i64 H x2 0 (fun v2 => ld1 H x2 1 (fun v3 => AC Try.prog T0 137 [(Value.agg ⟨[(Value.int .i64 v2), v3]⟩), x1] H (fun v4 H5 => asB v4 (fun v6 => pif v6 (ldI .i64 H5 x2 0 (fun v7 => ld1 H5 x2 1 (fun v8 => AC Try.prog T0 138 [(Value.agg ⟨[(Value.int .i64 v7), v8]⟩), x1] H5 (fun v9 H10 => lenK v9 (fun n12 => P (Value.bool (((n12 : Int) : Int) == 1)) H10))))) (P (Value.bool false) H5)))))) (P (Value.bool false) H))
theorem q1 (P : PT) : QB Try.prog T0 20 o1 (ret P) k0 (B1 P) := fun _ _ _ _  => by kernel_rfl
abbrev k1 : Sk := [(0,.g [.i,.v]),(1,.v)]
noncomputable def o2 := ob Try.f85 [.l]
def B2 (P : PT) (x0a : Int) (x0b x1 : Value) (H : AHeap) : Prop :=
  newK H [(Value.int .i64 x0a), x0b] 31 (fun b1 H2 => B1 P x1 b1 H2)
theorem q2 (P : PT) : QB Try.prog T0 20 o2 (En 20 k0 (B1 P)) k1 (B2 P) := fun _ _ _ _ _  => by kernel_rfl
noncomputable def code : Code := (.seq (.region 0 ⟨o2⟩ false) (.seq (.region 1 ⟨o1⟩ false) .ret))
theorem body : Try.f85.body = some code := by kernel_rfl
theorem main (P : PT) : ∀ env H, (En 20 k1 (B2 P)) env H → AW Try.prog T0 code env H (mkQ (ret P) (fun _ _ _ => False) (ret P)) :=
  (r_seq (rB T0_ok (q2 P)) (r_seq (rB T0_ok (q1 P)) r_ret))
theorem ac (P : PT) (x0a : Int) (x0b x1 : Value) (H : AHeap) (h : B2 P x0a x0b x1 H) : AC Try.prog T0 85 [(Value.agg ⟨[(Value.int .i64 x0a), x0b]⟩), x1] H P :=
  r_fn T0_ok (c := code) (n := 20) Try.func85 body (by kernel_rfl) (main P) (En_mk (x0a, x0b, x1, ()) (by kernel_rfl) ⟨by kernel_rfl, by kernel_rfl, trivial⟩ h)

end F85
-- loop.example/g01329/impl.areAll[[]int64]
namespace F86
noncomputable def ret (P : PT) : EP := retE T0 9 Try.f86 P
abbrev k0 : Sk := [(0,.v),(3,.x)]
noncomputable def o1 := ob Try.f86 [.r,.l]
def B1 (P : PT) (x0 : Value) (x3 : Nat) (H : AHeap) : Prop :=
  AC Try.prog T0 139 [x0, (Value.func (.func 140) ⟨[]⟩ ⟨[(Value.pointer (some ⟨x3, 0, none⟩))]⟩)] H (fun v1 H2 => asB v1 (fun v3 => P (Value.bool (!v3)) H2))
theorem q1 (P : PT) : QB Try.prog T0 9 o1 (ret P) k0 (B1 P) := fun _ _ _ _  => by kernel_rfl
abbrev k1 : Sk := [(0,.v),(1,.v)]
noncomputable def o2 := ob Try.f86 [.l]
def B2 (P : PT) (x0 x1 : Value) (H : AHeap) : Prop :=
  pif (Value.oneCell' x1) (newK H [x1] 62 (fun b1 H2 => B1 P x0 b1 H2)) False
theorem q2 (P : PT) : QB Try.prog T0 9 o2 (En 9 k0 (B1 P)) k1 (B2 P) := fun _ _ _ _  => by kernel_rfl
noncomputable def code : Code := (.seq (.region 0 ⟨o2⟩ false) (.seq (.region 1 ⟨o1⟩ false) .ret))
theorem body : Try.f86.body = some code := by kernel_rfl
theorem main (P : PT) : ∀ env H, (En 9 k1 (B2 P)) env H → AW Try.prog T0 code env H (mkQ (ret P) (fun _ _ _ => False) (ret P)) :=
  (r_seq (rB T0_ok (q2 P)) (r_seq (rB T0_ok (q1 P)) r_ret))
theorem ac (P : PT) (x0 x1 : Value) (H : AHeap) (h : B2 P x0 x1 H) : AC Try.prog T0 86 [x0, x1] H P :=
  r_fn T0_ok (c := code) (n := 9) Try.func86 body (by kernel_rfl) (main P) (En_mk (x0, x1, ()) (by kernel_rfl) ⟨by kernel_rfl, by kernel_rfl, trivial⟩ h)

end F86
-- (loop.example/g01329/impl.Graph).areSets$1
namespace F87
noncomputable def ret (P : PT) : EP := retE T0 9 Try.f87 P
abbrev k0 : Sk := [(0,.v),(1,.v)]
noncomputable def o1 := ob Try.f87 [.r,.l]
def B1 (P : PT) (x0 x1 : Value) (H : AHeap) : Prop :=
  asP x1 (fun b1 o2 => ld1 H b1 (o2 + 1) (fun v3 => AC Try.prog T0 44 [v3] H (fun v4 H5 => asI .i64 v4 (fun v6 => AC Try.prog T0 88 [x0, (Value.int .i64 v6)] H5 (fun v7 H8 => asB v7 (fun v9 => P (Value.bool v9) H8))))))
theorem q1 (P : PT) : QB Try.prog T0 9 o1 (ret P) k0 (B1 P) := fun _ _ _ _  => by kernel_rfl
noncomputable def o2 := ob Try.f87 [.l]
def B2 (P : PT) (x0 x1 : Value) (H : AHeap) : Prop :=
  B1 P x0 x1 H
theorem q2 (P : PT) : QB Try.prog T0 9 o2 (En 9 k0 (B1 P)) k0 (B2 P) := fun _ _ _ _  => by kernel_rfl
noncomputable def code : Code := (.seq (.region 0 ⟨o2⟩ false) (.seq (.region 1 ⟨o1⟩ false) .ret))
theorem body : Try.f87.body = some code := by kernel_rfl
theorem main (P : PT) : ∀ env H, (En 9 k0 (B2 P)) env H → AW Try.prog T0 code env H (mkQ (ret P) (fun _ _ _ => False) (ret P)) :=
  (r_seq (rB T0_ok (q2 P)) (r_seq (rB T0_ok (q1 P)) r_ret))
theorem ac (P : PT) (x0 x1 : Value) (H : AHeap) (h : B2 P x0 x1 H) : AC Try.prog T0 87 [x0, x1] H P :=
  r_fn T0_ok (c := code) (n := 9) Try.func87 body (by kernel_rfl) (main P) (En_mk (x0, x1, ()) (by kernel_rfl) ⟨by kernel_rfl, by kernel_rfl, trivial⟩ h)

end F87
-- loop.example/g01329/impl.isSet
namespace F88
noncomputable def ret (P : PT) : EP := retE T0 33 Try.f88 P
abbrev k0 : Sk := []
noncomputable def o1 := ob Try.f88 [.r,.r,.l]
def B1 (P : PT) (H : AHeap) : Prop :=
  P (Value.bool true) H
theorem q1 (P : PT) : QB Try.prog T0 33 o1 (ret P) k0 (B1 P) := fun _ _  => by kernel_rfl
abbrev k1 : Sk := [(0,.v),(1,.i .i64),(7,.v),(8,.i .i64),(9,.i .i64)]
noncomputable def o3 := ob Try.f88 [.r,.l,.r,.l,.l,.r,.r,.r]
def B3 (P : PT) (N2 : NTy k1 Pr) (x0 : Value) (x1 : Int) (x7 : Value) (x8 x9 : Int) (H : AHeap) : Prop :=
  N2 x0 x1 x7 x8 (IntKind.i64.wrap (x9 + 1)) H
theorem q3 (P : PT) (N2 : NTy k1 Pr) : QB Try.prog T0 33 o3 (En 33 k1 N2) k1 (B3 P N2) := fun _ _ _ _ _ _ _  => by kernel_rfl
noncomputable def o4 := ob Try.f88 [.r,.l,.r,.l,.l,.r,.r,.l,.l,.r,.r,.l,.l]
def B4 (P : PT) (N2 : NTy k1 Pr) (H : AHeap) : Prop :=
  P (Value.bool false) H
theorem q4 (P : PT) (N2 : NTy k1 Pr) : QB Try.prog T0 33 o4 (ret P) k0 (B4 P N2) := fun _ _  => by kernel_rfl
abbrev k2 : Sk := [(0,.v),(1,.i .i64),(5,.i .i64),(6,.i .i64),(7,.v),(8,.i .i64),(9,.i .i64)]
noncomputable def o5 := ob Try.f88 [.r,.l,.r,.l,.l,.r,.r,.l,.l,.r,.l]
def B5 (P : PT) (N2 : NTy k1 Pr) (x0 : Value) (x1 x5 x6 : Int) (x7 : Value) (x8 x9 : Int) (H : AHeap) : Prop :=
  AC Try.prog T0 53 [(Value.int .i64 x6), (Value.int .i64 0), (Value.int .i64 (IntKind.i64.wrap (x1 - 1)))] H (fun v1 H2 => asB v1 (fun v3 => pif (!v3) (B4 P N2 H2) (pif (decide ((x5 : Int) > 0)) (idxK x0 (IntKind.i64.wrap (x5 - 1)) 1 (fun b4 o5 => ldI .i64 H2 b4 o5 (fun v6 => pif (decide ((x6 : Int) ≤ v6)) (B4 P N2 H2) (B3 P N2 x0 x1 x7 x8 x9 H2)))) (B3 P N2 x0 x1 x7 x8 x9 H2))))
theorem q5 (P : PT) (N2 : NTy k1 Pr) : QB Try.prog T0 33 o5 (cnd 31 (En 33 k0 (B4 P N2)) (En 33 k1 (B3 P N2))) k2 (B5 P N2) := fun _ _ _ _ _ _ _ _ _  => by kernel_rfl
noncomputable def o6 := ob Try.f88 [.r,.l,.r,.l,.l,.r,.r,.l,.l,.l]
def B6 (P : PT) (N2 : NTy k1 Pr) (x0 : Value) (x1 : Int) (x7 : Value) (x8 x9 : Int) (H : AHeap) : Prop :=
  idxK x7 x9 1 (fun b1 o2 => ldI .i64 H b1 o2 (fun v3 => B5 P N2 x0 x1 x9 v3 x7 x8 x9 H))
theorem q6 (P : PT) (N2 : NTy k1 Pr) : QB Try.prog T0 33 o6 (En 33 k2 (B5 P N2)) k1 (B6 P N2) := fun _ _ _ _ _ _ _  => by kernel_rfl
noncomputable def o7 := ob Try.f88 [.r,.l,.r,.l,.l,.l]
def B7 (P : PT) (N2 : NTy k1 Pr) (x0 : Value) (x1 : Int) (x7 : Value) (x8 x9 : Int) (H : AHeap) : Prop :=
  pif (decide ((x9 : Int) < x8)) (B6 P N2 x0 x1 x7 x8 x9 H) (B1 P H)
theorem q7 (P : PT) (N2 : NTy k1 Pr) : QB Try.prog T0 33 o7 (cnd 10 (En 33 k1 (B6 P N2)) (En 33 k0 (B1 P))) k1 (B7 P N2) := fun _ _ _ _ _ _ _  => by kernel_rfl
def L2 (P : PT) (x0 : Value) (x1 : Int) (x7 : Value) (x8 x9 : Int) (H : AHeap) : Prop :=
  ∃ (I : NTy k1 Pr) (μ : NTy k1 (AHeap → Nat)), I x0 x1 x7 x8 x9 H ∧ ∀ y0 y1 y7 y8 y9 G, I y0 y1 y7 y8 y9 G → B7 P (fun z0 z1 z7 z8 z9 G' => I z0 z1 z7 z8 z9 G' ∧ μ z0 z1 z7 z8 z9 G' < μ y0 y1 y7 y8 y9 G) y0 y1 y7 y8 y9 G
theorem l2 (P : PT) : LQ k1 (L2 P) (B7 P) := fun ⟨_,_,_,_,_,_⟩ _ ⟨I, μ, h0, hI⟩ => ⟨apT _ I, apT _ μ, h0, fun ⟨_,_,_,_,_,_⟩ _ h => hI _ _ _ _ _ _  h⟩
abbrev k3 : Sk := [(0,.v),(1,.i .i64)]
noncomputable def o8 := ob Try.f88 [.r,.l,.l]
def B8 (P : PT) (x0 : Value) (x1 : Int) (H : AHeap) : Prop :=
  lenK x0 (fun n1 => L2 P x0 x1 x0 (n1 : Int) 0 H)
theorem q8 (P : PT) : QB Try.prog T0 33 o8 (En 33 k1 (L2 P)) k3 (B8 P) := fun _ _ _ _  => by kernel_rfl
noncomputable def o9 := ob Try.f88 [.l]
def B9 (P : PT) (x0 : Value) (x1 : Int) (H : AHeap) : Prop :=
  B8 P x0 x1 H
theorem q9 (P : PT) : QB Try.prog T0 33 o9 (En 33 k3 (B8 P)) k3 (B9 P) := fun _ _ _ _  => by kernel_rfl
noncomputable def code : Code := (.seq (.region 0 ⟨o9⟩ false) (.seq (.seq (.region 1 ⟨o8⟩ false) (.block 0 (.loop (.seq (.region 2 ⟨o7⟩ false) (.seq (.cond (.tmp 10) .skip (.exit 0)) (.seq (.block 1 (.seq (.region 3 ⟨o6⟩ false) (.seq (.region 4 ⟨o5⟩ false) (.cond (.tmp 31) (.seq (.region 5 ⟨o4⟩ false) .ret) .skip)))) (.region 6 ⟨o3⟩ false))))))) (.seq (.region 7 ⟨o1⟩ false) .ret)))
theorem body : Try.f88.body = some code := by kernel_rfl
theorem main (P : PT) : ∀ env H, (En 33 k3 (B9 P)) env H → AW Try.prog T0 code env H (mkQ (ret P) (fun _ _ _ => False) (ret P)) :=
  (r_seq (rB T0_ok (q9 P)) (r_seq (r_seq (rB T0_ok (q8 P)) (r_block (rL (l2 P) (fun N2 => (r_seq (rB T0_ok (q7 P N2)) (r_seq (r_cond rfl r_skip (r_exit (fun _ _ h => h))) (r_seq (r_block (r_seq (rB T0_ok (q6 P N2)) (r_seq (rB T0_ok (q5 P N2)) (r_cond rfl (r_seq (rB T0_ok (q4 P N2)) r_ret) r_skip)))) (rB T0_ok (q3 P N2))))))))) (r_seq (rB T0_ok (q1 P)) r_ret)))
theorem ac (P : PT) (x0 : Value) (x1 : Int) (H : AHeap) (h : B9 P x0 x1 H) : AC Try.prog T0 88 [x0, (Value.int .i64 x1)] H P :=
  r_fn T0_ok (c := code) (n := 33) Try.func88 body (by kernel_rfl) (main P) (En_mk (x0, x1, ()) (by kernel_rfl) ⟨by kernel_rfl, by kernel_rfl, trivial⟩ h)

end F88
-- slices.ContainsFunc[[]int64,int64]
namespace F89
noncomputable def ret (P : PT) : EP := retE T0 9 Try.f89 P
abbrev k0 : Sk := [(0,.v),(1,.v)]
noncomputable def o1 := ob Try.f89 [.r,.l]
def B1 (P : PT) (x0 x1 : Value) (H : AHeap) : Prop :=
  AC Try.prog T0 141 [x0, x1] H (fun v1 H2 => asI .i64 v1 (fun v3 => P (Value.bool (decide ((v3 : Int) ≥ 0))) H2))
theorem q1 (P : PT) : QB Try.prog T0 9 o1 (ret P) k0 (B1 P) := fun _ _ _ _  => by kernel_rfl
noncomputable def o2 := ob Try.f89 [.l]
def B2 (P : PT) (x0 x1 : Value) (H : AHeap) : Prop :=
  B1 P x0 x1 H
theorem q2 (P : PT) : QB Try.prog T0 9 o2 (En 9 k0 (B1 P)) k0 (B2 P) := fun _ _ _ _  => by kernel_rfl
noncomputable def code : Code := (.seq (.region 0 ⟨o2⟩ false) (.seq (.region 1 ⟨o1⟩ false) .ret))
theorem body : Try.f89.body = some code := by kernel_rfl
theorem main (P : PT) : ∀ env H, (En 9 k0 (B2 P)) env H → AW Try.prog T0 code env H (mkQ (ret P) (fun _ _ _ => False) (ret P)) :=
  (r_seq (rB T0_ok (q2 P)) (r_seq (rB T0_ok (q1 P)) r_ret))
theorem ac (P : PT) (x0 x1 : Value) (H : AHeap) (h : B2 P x0 x1 H) : AC Try.prog T0 89 [x0, x1] H P :=
  r_fn T0_ok (c := code) (n := 9) Try.func89 body (by kernel_rfl) (main P) (En_mk (x0, x1, ()) (by kernel_rfl) ⟨by kernel_rfl, by kernel_rfl, trivial⟩ h)

end F89
-- loop.example/g01329/impl.areAll[int64]$1
namespace F90
noncomputable def ret (P : PT) : EP := retE T0 8 Try.f90 P
abbrev k0 : Sk := [(0,.i .i64),(1,.v)]
noncomputable def o1 := ob Try.f90 [.r,.l]
def B1 (P : PT) (x0 : Int) (x1 : Value) (H : AHeap) : Prop :=
  asP x1 (fun b1 o2 => ld1 H b1 o2 (fun v3 => callV Try.prog T0 v3 [(Value.int .i64 x0)] H (fun v4 H5 => asB v4 (fun v6 => P (Value.bool (!v6)) H5))))
theorem q1 (P : PT) : QB Try.prog T0 8 o1 (ret P) k0 (B1 P) := fun _ _ _ _  => by kernel_rfl
noncomputable def o2 := ob Try.f90 [.l]
def B2 (P : PT) (x0 : Int) (x1 : Value) (H : AHeap) : Prop :=
  B1 P x0 x1 H
theorem q2 (P : PT) : QB Try.prog T0 8 o2 (En 8 k0 (B1 P)) k0 (B2 P) := fun _ _ _ _  => by kernel_rfl
noncomputable def code : Code := (.seq (.region 0 ⟨o2⟩ false) (.seq (.region 1 ⟨o1⟩ false) .ret))
theorem body : Try.f90.body = some code := by kernel_rfl
theorem main (P : PT) : ∀ env H, (En 8 k0 (B2 P)) env H → AW Try.prog T0 code env H (mkQ (ret P) (fun _ _ _ => False) (ret P)) :=
  (r_seq (rB T0_ok (q2 P)) (r_seq (rB T0_ok (q1 P)) r_ret))
theorem ac (P : PT) (x0 : Int) (x1 : Value) (H : AHeap) (h : B2 P x0 x1 H) : AC Try.prog T0 90 [(Value.int .i64 x0), x1] H P :=
  r_fn T0_ok (c := code) (n := 8) Try.func90 body (by kernel_rfl) (main P) (En_mk (x0, x1, ()) (by kernel_rfl) ⟨by kernel_rfl, by kernel_rfl, trivial⟩ h)

end F90
-- (loop.example/g01329/impl.Graph).isCycle
namespace F91
noncomputable def ret (P : PT) : EP := retE T0 15 Try.f91 P
abbrev k0 : Sk := [(1,.i .u64),(2,.x)]
noncomputable def o1 := ob Try.f91 [.r,.l]
def B1 (P : PT) (x1 : Int) (x2 : Nat) (H : AHeap) : Prop :=
  ldI .i64 H x2 0 (fun v1 => ld1 H x2 1 (fun v2 => AC Try.prog T0 142 [(Value.agg ⟨[(Value.int .i64 v1), v2]⟩), (Value.int .u64 x1)] H (fun v3 H4 => asB v3 (fun v5 => pif v5 (ldI .i64 H4 x2 0 (fun v6 => ld1 H4 x2 1 (fun v7 => AC Try.prog T0 113 [(Value.agg ⟨[(Value.int .i64 v6), v7]⟩), (Value.int .u64 x1)] H4 (fun v8 H9 => lenK v8 (fun n11 => P (Value.bool (((n11 : Int) : Int) == 1)) H9))))) (P (Value.bool false) H4)))))
theorem q1 (P : PT) : QB Try.prog T0 15 o1 (ret P) k0 (B1 P) := fun _ _ _ _  => by kernel_rfl
abbrev k1 : Sk := [(0,.g [.i,.v]),(1,.i .u64)]
noncomputable def o2 := ob Try.f91 [.l]
def B2 (P : PT) (x0a : Int) (x0b : Value) (x1 : Int) (H : AHeap) : Prop :=
  newK H [(Value.int .i64 x0a), x0b] 31 (fun b1 H2 => B1 P x1 b1 H2)
theorem q2 (P : PT) : QB Try.prog T0 15 o2 (En 15 k0 (B1 P)) k1 (B2 P) := fun _ _ _ _ _  => by kernel_rfl
noncomputable def code : Code := (.seq (.region 0 ⟨o2⟩ false) (.seq (.region 1 ⟨o1⟩ false) .ret))
theorem body : Try.f91.body = some code := by kernel_rfl
theorem main (P : PT) : ∀ env H, (En 15 k1 (B2 P)) env H → AW Try.prog T0 code env H (mkQ (ret P) (fun _ _ _ => False) (ret P)) :=
  (r_seq (rB T0_ok (q2 P)) (r_seq (rB T0_ok (q1 P)) r_ret))
theorem ac (P : PT) (x0a : Int) (x0b : Value) (x1 : Int) (H : AHeap) (h : B2 P x0a x0b x1 H) : AC Try.prog T0 91 [(Value.agg ⟨[(Value.int .i64 x0a), x0b]⟩), (Value.int .u64 x1)] H P :=
  r_fn T0_ok (c := code) (n := 15) Try.func91 body (by kernel_rfl) (main P) (En_mk (x0a, x0b, x1, ()) (by kernel_rfl) ⟨by kernel_rfl, by kernel_rfl, trivial⟩ h)

end F91
-- loop.example/g01329/impl.areAll[int]
namespace F92
noncomputable def ret (P : PT) : EP := retE T0 9 Try.f92 P
abbrev k0 : Sk := [(0,.v),(3,.x)]
noncomputable def o1 := ob Try.f92 [.r,.l]
def B1 (P : PT) (x0 : Value) (x3 : Nat) (H : AHeap) : Prop :=
  AC Try.prog T0 143 [x0, (Value.func (.func 144) ⟨[]⟩ ⟨[(Value.pointer (some ⟨x3, 0, none⟩))]⟩)] H (fun v1 H2 => asB v1 (fun v3 => P (Value.bool (!v3)) H2))
theorem q1 (P : PT) : QB Try.prog T0 9 o1 (ret P) k0 (B1 P) := fun _ _ _ _  => by kernel_rfl
abbrev k1 : Sk := [(0,.v),(1,.v)]
noncomputable def o2 := ob Try.f92 [.l]
def B2 (P : PT) (x0 x1 : Value) (H : AHeap) : Prop :=
  pif (Value.oneCell' x1) (newK H [x1] 113 (fun b1 H2 => B1 P x0 b1 H2)) False
theorem q2 (P : PT) : QB Try.prog T0 9 o2 (En 9 k0 (B1 P)) k1 (B2 P) := fun _ _ _ _  => by kernel_rfl
noncomputable def code : Code := (.seq (.region 0 ⟨o2⟩ false) (.seq (.region 1 ⟨o1⟩ false) .ret))
theorem body : Try.f92.body = some code := by kernel_rfl
theorem main (P : PT) : ∀ env H, (En 9 k1 (B2 P)) env H → AW Try.prog T0 code env H (mkQ (ret P) (fun _ _ _ => False) (ret P)) :=
  (r_seq (rB T0_ok (q2 P)) (r_seq (rB T0_ok (q1 P)) r_ret))
theorem ac (P : PT) (x0 x1 : Value) (H : AHeap) (h : B2 P x0 x1 H) : AC Try.prog T0 92 [x0, x1] H P :=
  r_fn T0_ok (c := code) (n := 9) Try.func92 body (by kernel_rfl) (main P) (En_mk (x0, x1, ()) (by kernel_rfl) ⟨by kernel_rfl, by kernel_rfl, trivial⟩ h)

end F92
-- (loop.example/g01329/impl.Graph).isDouble$1
namespace F93
noncomputable def ret (P : PT) : EP := retE T0 5 Try.f93 P
abbrev k0 : Sk := [(0,.i .i64)]
noncomputable def o1 := ob Try.f93 [.r,.l]
def B1 (P : PT) (x0 : Int) (H : AHeap) : Prop :=
  P (Value.bool ((x0 : Int) == 2)) H
theorem q1 (P : PT) : QB Try.prog T0 5 o1 (ret P) k0 (B1 P) := fun _ _ _  => by kernel_rfl
noncomputable def o2 := ob Try.f93 [.l]
def B2 (P : PT) (x0 : Int) (H : AHeap) : Prop :=
  B1 P x0 H
theorem q2 (P : PT) : QB Try.prog T0 5 o2 (En 5 k0 (B1 P)) k0 (B2 P) := fun _ _ _  => by kernel_rfl
noncomputable def code : Code := (.seq (.region 0 ⟨o2⟩ false) (.seq (.region 1 ⟨o1⟩ false) .ret))
theorem body : Try.f93.body = some code := by kernel_rfl
theorem main (P : PT) : ∀ env H, (En 5 k0 (B2 P)) env H → AW Try.prog T0 code env H (mkQ (ret P) (fun _ _ _ => False) (ret P)) :=
  (r_seq (rB T0_ok (q2 P)) (r_seq (rB T0_ok (q1 P)) r_ret))
theorem ac (P : PT) (x0 : Int) (H : AHeap) (h : B2 P x0 H) : AC Try.prog T0 93 [(Value.int .i64 x0)] H P :=
  r_fn T0_ok (c := code) (n := 5) Try.func93 body (by kernel_rfl) (main P) (En_mk (x0, ()) (by kernel_rfl) ⟨by kernel_rfl, trivial⟩ h)

end F93
-- (loop.example/g01329/impl.Graph).end
namespace F94
noncomputable def ret (P : PT) : EP := retE T0 21 Try.f94 P
abbrev k0 : Sk := [(2,.x),(3,.x)]
noncomputable def o1 := ob Try.f94 [.r,.r,.l]
def B1 (P : PT) (x2 x3 : Nat) (H : AHeap) : Prop :=
  ld1 H x2 1 (fun v1 => ldI .i64 H x3 0 (fun v2 => idxK v1 v2 2 (fun b3 o4 => ldI .i64 H b3 (o4 + 1) (fun v5 => P (Value.int .i64 v5) H))))
theorem q1 (P : PT) : QB Try.prog T0 21 o1 (ret P) k0 (B1 P) := fun _ _ _ _  => by kernel_rfl
noncomputable def o2 := ob Try.f94 [.r,.l,.r,.l,.l]
def B2 (P : PT) (x2 x3 : Nat) (H : AHeap) : Prop :=
  ld1 H x2 1 (fun v1 => ldI .i64 H x3 0 (fun v2 => idxK v1 v2 2 (fun b3 o4 => ldI .i64 H b3 o4 (fun v5 => P (Value.int .i64 v5) H))))
theorem q2 (P : PT) : QB Try.prog T0 21 o2 (ret P) k0 (B2 P) := fun _ _ _ _  => by kernel_rfl
noncomputable def o3 := ob Try.f94 [.r,.l,.l]
def B3 (P : PT) (x2 x3 : Nat) (H : AHeap) : Prop :=
  ld1 H x3 1 (fun v2 => asB v2 (fun v1 => pif v1 (B2 P x2 x3 H) (B1 P x2 x3 H)))
theorem q3 (P : PT) : QB Try.prog T0 21 o3 (cnd 6 (En 21 k0 (B2 P)) (En 21 k0 (B1 P))) k0 (B3 P) := fun _ _ _ _  => by kernel_rfl
abbrev k1 : Sk := [(0,.g [.i,.v]),(1,.g [.i,.b])]
noncomputable def o4 := ob Try.f94 [.l]
def B4 (P : PT) (x0a : Int) (x0b : Value) (x1a : Int) (x1b : Bool) (H : AHeap) : Prop :=
  newK H [(Value.int .i64 x0a), x0b] 31 (fun b1 H2 => newK H2 [(Value.int .i64 x1a), (Value.bool x1b)] 85 (fun b3 H4 => B3 P b1 b3 H4))
theorem q4 (P : PT) : QB Try.prog T0 21 o4 (En 21 k0 (B3 P)) k1 (B4 P) := fun _ _ _ _ _ _  => by kernel_rfl
noncomputable def code : Code := (.seq (.region 0 ⟨o4⟩ false) (.seq (.seq (.region 1 ⟨o3⟩ false) (.cond (.tmp 6) (.seq (.region 2 ⟨o2⟩ false) .ret) .skip)) (.seq (.region 3 ⟨o1⟩ false) .ret)))
theorem body : Try.f94.body = some code := by kernel_rfl
theorem main (P : PT) : ∀ env H, (En 21 k1 (B4 P)) env H → AW Try.prog T0 code env H (mkQ (ret P) (fun _ _ _ => False) (ret P)) :=
  (r_seq (rB T0_ok (q4 P)) (r_seq (r_seq (rB T0_ok (q3 P)) (r_cond rfl (r_seq (rB T0_ok (q2 P)) r_ret) r_skip)) (r_seq (rB T0_ok (q1 P)) r_ret)))
theorem ac (P : PT) (x0a : Int) (x0b : Value) (x1a : Int) (x1b : Bool) (H : AHeap) (h : B4 P x0a x0b x1a x1b H) : AC Try.prog T0 94 [(Value.agg ⟨[(Value.int .i64 x0a), x0b]⟩), (Value.agg ⟨[(Value.int .i64 x1a), (Value.bool x1b)]⟩)] H P :=
  r_fn T0_ok (c := code) (n := 21) Try.func94 body (by kernel_rfl) (main P) (En_mk (x0a, x0b, x1a, x1b, ()) (by kernel_rfl) ⟨by kernel_rfl, by kernel_rfl, trivial⟩ h)

end F94
-- (loop.example/g01329/impl.Graph).at
namespace F95
noncomputable def ret (P : PT) : EP := retE T0 25 Try.f95 P
abbrev k0 : Sk := [(5,.v)]
noncomputable def o1 := ob Try.f95 [.r,.r,.r,.l]
def B1 (P : PT) (x5 : Value) (H : AHeap) : Prop :=
  P x5 H
theorem q1 (P : PT) : QB Try.prog T0 25 o1 (ret P) k0 (B1 P) := fun _ _ _  => by kernel_rfl
abbrev k1 : Sk := [(1,.i .i64),(5,.v),(9,.v),(10,.i .i64),(11,.i .i64)]
noncomputable def o3 := ob Try.f95 [.r,.r,.l,.r,.l,.l,.r,.r,.r]
def B3 (P : PT) (N2 : NTy k1 Pr) (x1 : Int) (x5 x9 : Value) (x10 x11 : Int) (H : AHeap) : Prop :=
  N2 x1 x5 x9 x10 (IntKind.i64.wrap (x11 + 1)) H
theorem q3 (P : PT) (N2 : NTy k1 Pr) : QB Try.prog T0 25 o3 (En 25 k1 N2) k1 (B3 P N2) := fun _ _ _ _ _ _ _  => by kernel_rfl
abbrev k2 : Sk := [(1,.i .i64),(5,.v),(6,.i .i64),(9,.v),(10,.i .i64),(11,.i .i64)]
noncomputable def o4 := ob Try.f95 [.r,.r,.l,.r,.l,.l,.r,.r,.l,.l,.r,.r,.l]
def B4 (P : PT) (N2 : NTy k1 Pr) (x1 : Int) (x5 : Value) (x6 : Int) (x9 : Value) (x10 x11 : Int) (H : AHeap) : Prop :=
  newK H [(Value.int .i64 x6)] 2 (fun b1 H2 => apK T0 2 H2 x5 (Value.slice (some ⟨b1, 0, none⟩) 1 (1 + 1)) (fun v3 H4 => B3 P N2 x1 v3 x9 x10 x11 H4))
theorem q4 (P : PT) (N2 : NTy k1 Pr) : QB Try.prog T0 25 o4 (En 25 k1 (B3 P N2)) k2 (B4 P N2) := fun _ _ _ _ _ _ _ _  => by kernel_rfl
abbrev k3 : Sk := [(1,.i .i64),(5,.v),(6,.i .i64),(7,.x),(9,.v),(10,.i .i64),(11,.i .i64)]
noncomputable def o5 := ob Try.f95 [.r,.r,.l,.r,.l,.l,.r,.r,.l,.l,.r,.l]
def B5 (P : PT) (N2 : NTy k1 Pr) (x1 : Int) (x5 : Value) (x6 : Int) (x7 : Nat) (x9 : Value) (x10 x11 : Int) (H : AHeap) : Prop :=
  ldI .i64 H x7 0 (fun v1 => ldI .i64 H x7 1 (fun v2 => AC Try.prog T0 145 [(Value.agg ⟨[(Value.int .i64 v1), (Value.int .i64 v2)]⟩), (Value.int .i64 x1)] H (fun v3 H4 => asB v3 (fun v5 => pif v5 (B4 P N2 x1 x5 x6 x9 x10 x11 H4) (B3 P N2 x1 x5 x9 x10 x11 H4)))))
theorem q5 (P : PT) (N2 : NTy k1 Pr) : QB Try.prog T0 25 o5 (cnd 18 (En 25 k2 (B4 P N2)) (En 25 k1 (B3 P N2))) k3 (B5 P N2) := fun _ _ _ _ _ _ _ _ _  => by kernel_rfl
noncomputable def o6 := ob Try.f95 [.r,.r,.l,.r,.l,.l,.r,.r,.l,.l,.l]
def B6 (P : PT) (N2 : NTy k1 Pr) (x1 : Int) (x5 x9 : Value) (x10 x11 : Int) (H : AHeap) : Prop :=
  idxK x9 x11 2 (fun b1 o2 => ldI .i64 H b1 o2 (fun v3 => ldI .i64 H b1 (o2 + 1) (fun v4 => newK H [(Value.int .i64 0), (Value.int .i64 0)] 67 (fun b5 H6 => stK H6 b5 0 [(Value.int .i64 v3), (Value.int .i64 v4)] (fun H7 => B5 P N2 x1 x5 x11 b5 x9 x10 x11 H7)))))
theorem q6 (P : PT) (N2 : NTy k1 Pr) : QB Try.prog T0 25 o6 (En 25 k3 (B5 P N2)) k1 (B6 P N2) := fun _ _ _ _ _ _ _  => by kernel_rfl
noncomputable def o7 := ob Try.f95 [.r,.r,.l,.r,.l,.l,.l]
def B7 (P : PT) (N2 : NTy k1 Pr) (x1 : Int) (x5 x9 : Value) (x10 x11 : Int) (H : AHeap) : Prop :=
  pif (decide ((x11 : Int) < x10)) (B6 P N2 x1 x5 x9 x10 x11 H) (B1 P x5 H)
theorem q7 (P : PT) (N2 : NTy k1 Pr) : QB Try.prog T0 25 o7 (cnd 12 (En 25 k1 (B6 P N2)) (En 25 k0 (B1 P))) k1 (B7 P N2) := fun _ _ _ _ _ _ _  => by kernel_rfl
def L2 (P : PT) (x1 : Int) (x5 x9 : Value) (x10 x11 : Int) (H : AHeap) : Prop :=
  ∃ (I : NTy k1 Pr) (μ : NTy k1 (AHeap → Nat)), I x1 x5 x9 x10 x11 H ∧ ∀ y1 y5 y9 y10 y11 G, I y1 y5 y9 y10 y11 G → B7 P (fun z1 z5 z9 z10 z11 G' => I z1 z5 z9 z10 z11 G' ∧ μ z1 z5 z9 z10 z11 G' < μ y1 y5 y9 y10 y11 G) y1 y5 y9 y10 y11 G
theorem l2 (P : PT) : LQ k1 (L2 P) (B7 P) := fun ⟨_,_,_,_,_,_⟩ _ ⟨I, μ, h0, hI⟩ => ⟨apT _ I, apT _ μ, h0, fun ⟨_,_,_,_,_,_⟩ _ h => hI _ _ _ _ _ _  h⟩
abbrev k4 : Sk := [(1,.i .i64),(2,.x),(5,.v)]
noncomputable def o8 := ob Try.f95 [.r,.r,.l,.l]
def B8 (P : PT) (x1 : Int) (x2 : Nat) (x5 : Value) (H : AHeap) : Prop :=
  ld1 H x2 1 (fun v1 => lenK v1 (fun n2 => L2 P x1 x5 v1 (n2 : Int) 0 H))
theorem q8 (P : PT) : QB Try.prog T0 25 o8 (En 25 k1 (L2 P)) k4 (B8 P) := fun _ _ _ _ _  => by kernel_rfl
abbrev k5 : Sk := [(1,.i .i64),(2,.x)]
noncomputable def o9 := ob Try.f95 [.r,.l]
def B9 (P : PT) (x1 : Int) (x2 : Nat) (H : AHeap) : Prop :=
  B8 P x1 x2 (Value.slice none 0 0) H
theorem q9 (P : PT) : QB Try.prog T0 25 o9 (En 25 k4 (B8 P)) k5 (B9 P) := fun _ _ _ _  => by kernel_rfl
abbrev k6 : Sk := [(0,.g [.i,.v]),(1,.i .i64)]
noncomputable def o10 := ob Try.f95 [.l]
def B10 (P : PT) (x0a : Int) (x0b : Value) (x1 : Int) (H : AHeap) : Prop :=
  newK H [(Value.int .i64 x0a), x0b] 31 (fun b1 H2 => B9 P x1 b1 H2)
theorem q10 (P : PT) : QB Try.prog T0 25 o10 (En 25 k5 (B9 P)) k6 (B10 P) := fun _ _ _ _ _  => by kernel_rfl
noncomputable def code : Code := (.seq (.region 0 ⟨o10⟩ false) (.seq (.region 1 ⟨o9⟩ false) (.seq (.seq (.region 2 ⟨o8⟩ false) (.block 0 (.loop (.seq (.region 3 ⟨o7⟩ false) (.seq (.cond (.tmp 12) .skip (.exit 0)) (.seq (.block 1 (.seq (.region 4 ⟨o6⟩ false) (.seq (.region 5 ⟨o5⟩ false) (.cond (.tmp 18) (.region 6 ⟨o4⟩ false) .skip)))) (.region 7 ⟨o3⟩ false))))))) (.seq (.region 8 ⟨o1⟩ false) .ret))))
theorem body : Try.f95.body = some code := by kernel_rfl
theorem main (P : PT) : ∀ env H, (En 25 k6 (B10 P)) env H → AW Try.prog T0 code env H (mkQ (ret P) (fun _ _ _ => False) (ret P)) :=
  (r_seq (rB T0_ok (q10 P)) (r_seq (rB T0_ok (q9 P)) (r_seq (r_seq (rB T0_ok (q8 P)) (r_block (rL (l2 P) (fun N2 => (r_seq (rB T0_ok (q7 P N2)) (r_seq (r_cond rfl r_skip (r_exit (fun _ _ h => h))) (r_seq (r_block (r_seq (rB T0_ok (q6 P N2)) (r_seq (rB T0_ok (q5 P N2)) (r_cond rfl (rB T0_ok (q4 P N2)) r_skip)))) (rB T0_ok (q3 P N2))))))))) (r_seq (rB T0_ok (q1 P)) r_ret))))
theorem ac (P : PT) (x0a : Int) (x0b : Value) (x1 : Int) (H : AHeap) (h : B10 P x0a x0b x1 H) : AC Try.prog T0 95 [(Value.agg ⟨[(Value.int .i64 x0a), x0b]⟩), (Value.int .i64 x1)] H P :=
  r_fn T0_ok (c := code) (n := 25) Try.func95 body (by kernel_rfl) (main P) (En_mk (x0a, x0b, x1, ()) (by kernel_rfl) ⟨by kernel_rfl, by kernel_rfl, trivial⟩ h)

end F95
-- (loop.example/g01329/impl.Graph).cycles
namespace F113
noncomputable def ret (P : PT) : EP := retE T0 81 Try.f113 P
abbrev k0 : Sk := [(5,.v)]
noncomputable def o1 := ob Try.f113 [.r,.r,.r,.l]
def B1 (P : PT) (x5 : Value) (H : AHeap) : Prop :=
  P x5 H
theorem q1 (P : PT) : QB Try.prog T0 81 o1 (ret P) k0 (B1 P) := fun _ _ _  => by kernel_rfl
abbrev k1 : Sk := [(1,.i .u64),(2,.x),(5,.v),(15,.v),(16,.i .i64),(17,.i .i64)]
noncomputable def o3 := ob Try.f113 [.r,.r,.l,.r,.l,.l,.r,.r,.r]
def B3 (P : PT) (N2 : NTy k1 Pr) (x1 : Int) (x2 : Nat) (x5 x15 : Value) (x16 x17 : Int) (H : AHeap) : Prop :=
  N2 x1 x2 x5 x15 x16 (IntKind.i64.wrap (x17 + 1)) H
theorem q3 (P : PT) (N2 : NTy k1 Pr) : QB Try.prog T0 81 o3 (En 81 k1 N2) k1 (B3 P N2) := fun _ _ _ _ _ _ _ _  => by kernel_rfl
abbrev k2 : Sk := [(1,.i .u64),(2,.x),(5,.v),(8,.i .u64),(15,.v),(16,.i .i64),(17,.i .i64)]
noncomputable def o4 := ob Try.f113 [.r,.r,.l,.r,.l,.l,.r,.r,.l,.l,.r,.r,.r,.r]
def B4 (P : PT) (N2 : NTy k1 Pr) (x1 : Int) (x2 : Nat) (x5 : Value) (x8 : Int) (x15 : Value) (x16 x17 : Int) (H : AHeap) : Prop :=
  newK H [(Value.int .u64 x8)] 82 (fun b1 H2 => apK T0 82 H2 x5 (Value.slice (some ⟨b1, 0, none⟩) 1 (1 + 1)) (fun v3 H4 => B3 P N2 x1 x2 v3 x15 x16 x17 H4))
theorem q4 (P : PT) (N2 : NTy k1 Pr) : QB Try.prog T0 81 o4 (En 81 k1 (B3 P N2)) k2 (B4 P N2) := fun _ _ _ _ _ _ _ _ _  => by kernel_rfl
abbrev k3 : Sk := [(1,.i .u64),(2,.x),(5,.v),(8,.i .u64),(9,.v),(15,.v),(16,.i .i64),(17,.i .i64)]
noncomputable def o6 := ob Try.f113 [.r,.r,.l,.r,.l,.l,.r,.r,.l,.l,.r,.r,.r,.l,.r,.l,.l,.r,.r]
def B6 (P : PT) (N2 : NTy k1 Pr) (N5 : NTy k3 Pr) (x1 : Int) (x2 : Nat) (x5 : Value) (x8 : Int) (x9 x15 : Value) (x16 x17 : Int) (H : AHeap) : Prop :=
  sliceK H 2 x9 (some (Value.int .i64 1)) none 1 (fun v1 => N5 x1 x2 x5 x8 v1 x15 x16 x17 H)
theorem q6 (P : PT) (N2 : NTy k1 Pr) (N5 : NTy k3 Pr) : QB Try.prog T0 81 o6 (En 81 k3 N5) k3 (B6 P N2 N5) := fun _ _ _ _ _ _ _ _ _ _  => by kernel_rfl
abbrev k4 : Sk := [(1,.i .u64),(2,.x),(5,.v),(8,.i .u64),(9,.v),(15,.v),(16,.i .i64),(17,.i .i64),(44,.g [.i,.i]),(45,.i .i64)]
noncomputable def o8 := ob Try.f113 [.r,.r,.l,.r,.l,.l,.r,.r,.l,.l,.r,.r,.r,.l,.r,.l,.l,.r,.l,.l,.r,.l,.l,.r,.r,.r]
def B8 (P : PT) (N2 : NTy k1 Pr) (N5 : NTy k3 Pr) (N7 : NTy k4 Pr) (x1 : Int) (x2 : Nat) (x5 : Value) (x8 : Int) (x9 x15 : Value) (x16 x17 x44a x44b x45 : Int) (H : AHeap) : Prop :=
  N7 x1 x2 x5 x8 x9 x15 x16 x17 x44a x44b (IntKind.i64.wrap (x45 + 1)) H
theorem q8 (P : PT) (N2 : NTy k1 Pr) (N5 : NTy k3 Pr) (N7 : NTy k4 Pr) : QB Try.prog T0 81 o8 (En 81 k4 N7) k4 (B8 P N2 N5 N7) := fun _ _ _ _ _ _ _ _ _ _ _ _ _  => by kernel_rfl
abbrev k5 : Sk := [(1,.i .u64),(2,.x),(5,.v),(8,.i .u64),(9,.v),(15,.v),(16,.i .i64),(17,.i .i64),(44,.g [.i,.i]),(45,.i .i64),(50,.v),(51,.i .i64),(52,.i .i64)]
noncomputable def o10 := ob Try.f113 [.r,.r,.l,.r,.l,.l,.r,.r,.l,.l,.r,.r,.r,.l,.r,.l,.l,.r,.l,.l,.r,.l,.l,.r,.r,.l,.l,.r,.r,.l,.l,.r,.r,.r]
def B10 (P : PT) (N2 : NTy k1 Pr) (N5 : NTy k3 Pr) (N7 : NTy k4 Pr) (N9 : NTy k5 Pr) (x1 : Int) (x2 : Nat) (x5 : Value) (x8 : Int) (x9 x15 : Value) (x16 x17 x44a x44b x45 : Int) (x50 : Value) (x51 x52 : Int) (H : AHeap) : Prop :=
  N9 x1 x2 x5 x8 x9 x15 x16 x17 x44a x44b x45 x50 x51 (IntKind.i64.wrap (x52 + 1)) H
theorem q10 (P : PT) (N2 : NTy k1 Pr) (N5 : NTy k3 Pr) (N7 : NTy k4 Pr) (N9 : NTy k5 Pr) : QB Try.prog T0 81 o10 (En 81 k5 N9) k5 (B10 P N2 N5 N7 N9) := fun _ _ _ _ _ _ _ _ _ _ _ _ _ _ _ _  => by kernel_rfl
abbrev k6 : Sk := [(1,.i .u64),(2,.x),(5,.v),(8,.i .u64),(9,.v),(13,.i .i64),(15,.v),(16,.i .i64),(17,.i .i64),(44,.g [.i,.i]),(45,.i .i64),(50,.v),(51,.i .i64),(52,.i .i64)]
noncomputable def o11 := ob Try.f113 [.r,.r,.l,.r,.l,.l,.r,.r,.l,.l,.r,.r,.r,.l,.r,.l,.l,.r,.l,.l,.r,.l,.l,.r,.r,.l,.l,.r,.r,.l,.l,.r,.r,.l,.l,.r,.r,.l,.r]
def B11 (P : PT) (N2 : NTy k1 Pr) (N5 : NTy k3 Pr) (N7 : NTy k4 Pr) (N9 : NTy k5 Pr) (x1 : Int) (x2 : Nat) (x5 : Value) (x8 : Int) (x9 : Value) (x13 : Int) (x15 : Value) (x16 x17 x44a x44b x45 : Int) (x50 : Value) (x51 x52 : Int) (H : AHeap) : Prop :=
  newK H [(Value.int .i64 x13)] 2 (fun b1 H2 => apK T0 2 H2 x9 (Value.slice (some ⟨b1, 0, none⟩) 1 (1 + 1)) (fun v3 H4 => B10 P N2 N5 N7 N9 x1 x2 x5 x8 v3 x15 x16 x17 x44a x44b x45 x50 x51 x52 H4))
theorem q11 (P : PT) (N2 : NTy k1 Pr) (N5 : NTy k3 Pr) (N7 : NTy k4 Pr) (N9 : NTy k5 Pr) : QB Try.prog T0 81 o11 (En 81 k5 (B10 P N2 N5 N7 N9)) k6 (B11 P N2 N5 N7 N9) := fun _ _ _ _ _ _ _ _ _ _ _ _ _ _ _ _ _  => by kernel_rfl
noncomputable def o12 := ob Try.f113 [.r,.r,.l,.r,.l,.l,.r,.r,.l,.l,.r,.r,.r,.l,.r,.l,.l,.r,.l,.l,.r,.l,.l,.r,.r,.l,.l,.r,.r,.l,.l,.r,.r,.l,.l,.r,.r,.l,.l]
def B12 (P : PT) (N2 : NTy k1 Pr) (N5 : NTy k3 Pr) (N7 : NTy k4 Pr) (N9 : NTy k5 Pr) (x1 : Int) (x2 : Nat) (x5 : Value) (x8 : Int) (x9 : Value) (x13 : Int) (x15 : Value) (x16 x17 x44a x44b x45 : Int) (x50 : Value) (x51 x52 : Int) (H : AHeap) : Prop :=
  ((0 : Int) ≤ x13) ∧ (B11 P N2 N5 N7 N9 x1 x2 x5 (IntKind.u64.wrap (BitVec.ofInt 64 x8 ||| BitVec.ofInt 64 (IntKind.u64.wrap (1 * 2 ^ (min (Int.toNat x13) 64)))).toNat) x9 x13 x15 x16 x17 x44a x44b x45 x50 x51 x52 H)
theorem q12 (P : PT) (N2 : NTy k1 Pr) (N5 : NTy k3 Pr) (N7 : NTy k4 Pr) (N9 : NTy k5 Pr) : QB Try.prog T0 81 o12 (En 81 k6 (B11 P N2 N5 N7 N9)) k6 (B12 P N2 N5 N7 N9) := fun _ _ _ _ _ _ _ _ _ _ _ _ _ _ _ _ _  => by kernel_rfl
noncomputable def o13 := ob Try.f113 [.r,.r,.l,.r,.l,.l,.r,.r,.l,.l,.r,.r,.r,.l,.r,.l,.l,.r,.l,.l,.r,.l,.l,.r,.r,.l,.l,.r,.r,.l,.l,.r,.r,.l,.l,.r,.l]
def B13 (P : PT) (N2 : NTy k1 Pr) (N5 : NTy k3 Pr) (N7 : NTy k4 Pr) (N9 : NTy k5 Pr) (x1 : Int) (x2 : Nat) (x5 : Value) (x8 : Int) (x9 : Value) (x13 : Int) (x15 : Value) (x16 x17 x44a x44b x45 : Int) (x50 : Value) (x51 x52 : Int) (H : AHeap) : Prop :=
  AC Try.prog T0 79 [(Value.int .u64 x1), (Value.int .i64 x13)] H (fun v1 H2 => asB v1 (fun v3 => pif v3 (AC Try.prog T0 79 [(Value.int .u64 x8), (Value.int .i64 x13)] H2 (fun v4 H5 => asB v4 (fun v6 => pif (!v6) (B12 P N2 N5 N7 N9 x1 x2 x5 x8 x9 x13 x15 x16 x17 x44a x44b x45 x50 x51 x52 H5) (B10 P N2 N5 N7 N9 x1 x2 x5 x8 x9 x15 x16 x17 x44a x44b x45 x50 x51 x52 H5)))) (B10 P N2 N5 N7 N9 x1 x2 x5 x8 x9 x15 x16 x17 x44a x44b x45 x50 x51 x52 H2)))
theorem q13 (P : PT) (N2 : NTy k1 Pr) (N5 : NTy k3 Pr) (N7 : NTy k4 Pr) (N9 : NTy k5 Pr) : QB Try.prog T0 81 o13 (cnd 64 (En 81 k6 (B12 P N2 N5 N7 N9)) (En 81 k5 (B10 P N2 N5 N7 N9))) k6 (B13 P N2 N5 N7 N9) := fun _ _ _ _ _ _ _ _ _ _ _ _ _ _ _ _ _  => by kernel_rfl
noncomputable def o14 := ob Try.f113 [.r,.r,.l,.r,.l,.l,.r,.r,.l,.l,.r,.r,.r,.l,.r,.l,.l,.r,.l,.l,.r,.l,.l,.r,.r,.l,.l,.r,.r,.l,.l,.r,.r,.l,.l,.l]
def B14 (P : PT) (N2 : NTy k1 Pr) (N5 : NTy k3 Pr) (N7 : NTy k4 Pr) (N9 : NTy k5 Pr) (x1 : Int) (x2 : Nat) (x5 : Value) (x8 : Int) (x9 x15 : Value) (x16 x17 x44a x44b x45 : Int) (x50 : Value) (x51 x52 : Int) (H : AHeap) : Prop :=
  idxK x50 x52 1 (fun b1 o2 => ldI .i64 H b1 o2 (fun v3 => B13 P N2 N5 N7 N9 x1 x2 x5 x8 x9 v3 x15 x16 x17 x44a x44b x45 x50 x51 x52 H))
theorem q14 (P : PT) (N2 : NTy k1 Pr) (N5 : NTy k3 Pr) (N7 : NTy k4 Pr) (N9 : NTy k5 Pr) : QB Try.prog T0 81 o14 (En 81 k6 (B13 P N2 N5 N7 N9)) k5 (B14 P N2 N5 N7 N9) := fun _ _ _ _ _ _ _ _ _ _ _ _ _ _ _ _  => by kernel_rfl
noncomputable def o15 := ob Try.f113 [.r,.r,.l,.r,.l,.l,.r,.r,.l,.l,.r,.r,.r,.l,.r,.l,.l,.r,.l,.l,.r,.l,.l,.r,.r,.l,.l,.r,.r,.l,.l,.l]
def B15 (P : PT) (N2 : NTy k1 Pr) (N5 : NTy k3 Pr) (N7 : NTy k4 Pr) (N9 : NTy k5 Pr) (x1 : Int) (x2 : Nat) (x5 : Value) (x8 : Int) (x9 x15 : Value) (x16 x17 x44a x44b x45 : Int) (x50 : Value) (x51 x52 : Int) (H : AHeap) : Prop :=
  pif (decide ((x52 : Int) < x51)) (B14 P N2 N5 N7 N9 x1 x2 x5 x8 x9 x15 x16 x17 x44a x44b x45 x50 x51 x52 H) (B8 P N2 N5 N7 x1 x2 x5 x8 x9 x15 x16 x17 x44a x44b x45 H)
theorem q15 (P : PT) (N2 : NTy k1 Pr) (N5 : NTy k3 Pr) (N7 : NTy k4 Pr) (N9 : NTy k5 Pr) : QB Try.prog T0 81 o15 (cnd 53 (En 81 k5 (B14 P N2 N5 N7 N9)) (En 81 k4 (B8 P N2 N5 N7))) k5 (B15 P N2 N5 N7 N9) := fun _ _ _ _ _ _ _ _ _ _ _ _ _ _ _ _  => by kernel_rfl
def L9 (P : PT) (N2 : NTy k1 Pr) (N5 : NTy k3 Pr) (N7 : NTy k4 Pr) (x1 : Int) (x2 : Nat) (x5 : Value) (x8 : Int) (x9 x15 : Value) (x16 x17 x44a x44b x45 : Int) (x50 : Value) (x51 x52 : Int) (H : AHeap) : Prop :=
  ∃ (I : NTy k5 Pr) (μ : NTy k5 (AHeap → Nat)), I x1 x2 x5 x8 x9 x15 x16 x17 x44a x44b x45 x50 x51 x52 H ∧ ∀ y1 y2 y5 y8 y9 y15 y16 y17 y44a y44b y45 y50 y51 y52 G, I y1 y2 y5 y8 y9 y15 y16 y17 y44a y44b y45 y50 y51 y52 G → B15 P N2 N5 N7 (fun z1 z2 z5 z8 z9 z15 z16 z17 z44a z44b z45 z50 z51 z52 G' => I z1 z2 z5 z8 z9 z15 z16 z17 z44a z44b z45 z50 z51 z52 G' ∧ μ z1 z2 z5 z8 z9 z15 z16 z17 z44a z44b z45 z50 z51 z52 G' < μ y1 y2 y5 y8 y9 y15 y16 y17 y44a y44b y45 y50 y51 y52 G) y1 y2 y5 y8 y9 y15 y16 y17 y44a y44b y45 y50 y51 y52 G
theorem l9 (P : PT) (N2 : NTy k1 Pr) (N5 : NTy k3 Pr) (N7 : NTy k4 Pr) : LQ k5 (L9 P N2 N5 N7) (B15 P N2 N5 N7) := fun ⟨_,_,_,_,_,_,_,_,_,_,_,_,_,_,_⟩ _ ⟨I, μ, h0, hI⟩ => ⟨apT _ I, apT _ μ, h0, fun ⟨_,_,_,_,_,_,_,_,_,_,_,_,_,_,_⟩ _ h => hI _ _ _ _ _ _ _ _ _ _ _ _ _ _ _  h⟩
abbrev k7 : Sk := [(1,.i .u64),(2,.x),(5,.v),(8,.i .u64),(9,.v),(11,.i .i64),(15,.v),(16,.i .i64),(17,.i .i64),(44,.g [.i,.i]),(45,.i .i64)]
noncomputable def o16 := ob Try.f113 [.r,.r,.l,.r,.l,.l,.r,.r,.l,.l,.r,.r,.r,.l,.r,.l,.l,.r,.l,.l,.r,.l,.l,.r,.r,.l,.l,.r,.l]
def B16 (P : PT) (N2 : NTy k1 Pr) (N5 : NTy k3 Pr) (N7 : NTy k4 Pr) (x1 : Int) (x2 : Nat) (x5 : Value) (x8 : Int) (x9 : Value) (x11 : Int) (x15 : Value) (x16 x17 x44a x44b x45 : Int) (H : AHeap) : Prop :=
  ldI .i64 H x2 0 (fun v1 => ld1 H x2 1 (fun v2 => AC Try.prog T0 95 [(Value.agg ⟨[(Value.int .i64 v1), v2]⟩), (Value.int .i64 x11)] H (fun v3 H4 => lenK v3 (fun n6 => L9 P N2 N5 N7 x1 x2 x5 x8 x9 x15 x16 x17 x44a x44b x45 v3 (n6 : Int) 0 H4))))
theorem q16 (P : PT) (N2 : NTy k1 Pr) (N5 : NTy k3 Pr) (N7 : NTy k4 Pr) : QB Try.prog T0 81 o16 (En 81 k5 (L9 P N2 N5 N7)) k7 (B16 P N2 N5 N7) := fun _ _ _ _ _ _ _ _ _ _ _ _ _ _  => by kernel_rfl
noncomputable def o17 := ob Try.f113 [.r,.r,.l,.r,.l,.l,.r,.r,.l,.l,.r,.r,.r,.l,.r,.l,.l,.r,.l,.l,.r,.l,.l,.r,.r,.l,.l,.l]
def B17 (P : PT) (N2 : NTy k1 Pr) (N5 : NTy k3 Pr) (N7 : NTy k4 Pr) (x1 : Int) (x2 : Nat) (x5 : Value) (x8 : Int) (x9 x15 : Value) (x16 x17 x44a x44b x45 : Int) (H : AHeap) : Prop :=
  bndK x45 2 (atK [(Value.int .i64 x44a), (Value.int .i64 x44b)] (Int.toNat x45 * 1) (fun v1 => asI .i64 v1 (fun v2 => B16 P N2 N5 N7 x1 x2 x5 x8 x9 v2 x15 x16 x17 x44a x44b x45 H)))
theorem q17 (P : PT) (N2 : NTy k1 Pr) (N5 : NTy k3 Pr) (N7 : NTy k4 Pr) : QB Try.prog T0 81 o17 (En 81 k7 (B16 P N2 N5 N7)) k4 (B17 P N2 N5 N7) := fun _ _ _ _ _ _ _ _ _ _ _ _ _  => by kernel_rfl
noncomputable def o18 := ob Try.f113 [.r,.r,.l,.r,.l,.l,.r,.r,.l,.l,.r,.r,.r,.l,.r,.l,.l,.r,.l,.l,.r,.l,.l,.l]
def B18 (P : PT) (N2 : NTy k1 Pr) (N5 : NTy k3 Pr) (N7 : NTy k4 Pr) (x1 : Int) (x2 : Nat) (x5 : Value) (x8 : Int) (x9 x15 : Value) (x16 x17 x44a x44b x45 : Int) (H : AHeap) : Prop :=
  pif (decide ((x45 : Int) < 2)) (B17 P N2 N5 N7 x1 x2 x5 x8 x9 x15 x16 x17 x44a x44b x45 H) (B6 P N2 N5 x1 x2 x5 x8 x9 x15 x16 x17 H)
theorem q18 (P : PT) (N2 : NTy k1 Pr) (N5 : NTy k3 Pr) (N7 : NTy k4 Pr) : QB Try.prog T0 81 o18 (cnd 46 (En 81 k4 (B17 P N2 N5 N7)) (En 81 k3 (B6 P N2 N5))) k4 (B18 P N2 N5 N7) := fun _ _ _ _ _ _ _ _ _ _ _ _ _  => by kernel_rfl
def L7 (P : PT) (N2 : NTy k1 Pr) (N5 : NTy k3 Pr) (x1 : Int) (x2 : Nat) (x5 : Value) (x8 : Int) (x9 x15 : Value) (x16 x17 x44a x44b x45 : Int) (H : AHeap) : Prop :=
  ∃ (I : NTy k4 Pr) (μ : NTy k4 (AHeap → Nat)), I x1 x2 x5 x8 x9 x15 x16 x17 x44a x44b x45 H ∧ ∀ y1 y2 y5 y8 y9 y15 y16 y17 y44a y44b y45 G, I y1 y2 y5 y8 y9 y15 y16 y17 y44a y44b y45 G → B18 P N2 N5 (fun z1 z2 z5 z8 z9 z15 z16 z17 z44a z44b z45 G' => I z1 z2 z5 z8 z9 z15 z16 z17 z44a z44b z45 G' ∧ μ z1 z2 z5 z8 z9 z15 z16 z17 z44a z44b z45 G' < μ y1 y2 y5 y8 y9 y15 y16 y17 y44a y44b y45 G) y1 y2 y5 y8 y9 y15 y16 y17 y44a y44b y45 G
theorem l7 (P : PT) (N2 : NTy k1 Pr) (N5 : NTy k3 Pr) : LQ k4 (L7 P N2 N5) (B18 P N2 N5) := fun ⟨_,_,_,_,_,_,_,_,_,_,_,_⟩ _ ⟨I, μ, h0, hI⟩ => ⟨apT _ I, apT _ μ, h0, fun ⟨_,_,_,_,_,_,_,_,_,_,_,_⟩ _ h => hI _ _ _ _ _ _ _ _ _ _ _ _  h⟩
noncomputable def o19 := ob Try.f113 [.r,.r,.l,.r,.l,.l,.r,.r,.l,.l,.r,.r,.r,.l,.r,.l,.l,.r,.l,.l,.l]
def B19 (P : PT) (N2 : NTy k1 Pr) (N5 : NTy k3 Pr) (x1 : Int) (x2 : Nat) (x5 : Value) (x8 : Int) (x9 x15 : Value) (x16 x17 : Int) (H : AHeap) : Prop :=
  ld1 H x2 1 (fun v1 => idxK x9 0 1 (fun b2 o3 => ldI .i64 H b2 o3 (fun v4 => idxK v1 v4 2 (fun b5 o6 => ldI .i64 H b5 o6 (fun v7 => ldI .i64 H b5 (o6 + 1) (fun v8 => L7 P N2 N5 x1 x2 x5 x8 x9 x15 x16 x17 v7 v8 0 H))))))
theorem q19 (P : PT) (N2 : NTy k1 Pr) (N5 : NTy k3 Pr) : QD Try.prog T0 81 o19 [(0, false), (1, false), (2, false), (3, false), (4, false), (5, false), (6, false), (7, false)] (En 81 k4 (L7 P N2 N5)) k3 (B19 P N2 N5) := fun _ _ _ _ _ _ _ _ _ _  => by kernel_rfl
noncomputable def o20 := ob Try.f113 [.r,.r,.l,.r,.l,.l,.r,.r,.l,.l,.r,.r,.r,.l,.r,.l,.l,.l,.l]
def B20 (P : PT) (N2 : NTy k1 Pr) (N5 : NTy k3 Pr) (x1 : Int) (x2 : Nat) (x5 : Value) (x8 : Int) (x9 x15 : Value) (x16 x17 : Int) (H : AHeap) : Prop :=
  lenK x9 (fun n1 => pif (decide (((n1 : Int) : Int) > 0)) (B19 P N2 N5 x1 x2 x5 x8 x9 x15 x16 x17 H) (B4 P N2 x1 x2 x5 x8 x15 x16 x17 H))
theorem q20 (P : PT) (N2 : NTy k1 Pr) (N5 : NTy k3 Pr) : QB Try.prog T0 81 o20 (cnd 35 (En 81 k3 (B19 P N2 N5)) (En 81 k2 (B4 P N2))) k3 (B20 P N2 N5) := fun _ _ _ _ _ _ _ _ _ _  => by kernel_rfl
def L5 (P : PT) (N2 : NTy k1 Pr) (x1 : Int) (x2 : Nat) (x5 : Value) (x8 : Int) (x9 x15 : Value) (x16 x17 : Int) (H : AHeap) : Prop :=
  ∃ (I : NTy k3 Pr) (μ : NTy k3 (AHeap → Nat)), I x1 x2 x5 x8 x9 x15 x16 x17 H ∧ ∀ y1 y2 y5 y8 y9 y15 y16 y17 G, I y1 y2 y5 y8 y9 y15 y16 y17 G → B20 P N2 (fun z1 z2 z5 z8 z9 z15 z16 z17 G' => I z1 z2 z5 z8 z9 z15 z16 z17 G' ∧ μ z1 z2 z5 z8 z9 z15 z16 z17 G' < μ y1 y2 y5 y8 y9 y15 y16 y17 G) y1 y2 y5 y8 y9 y15 y16 y17 G
theorem l5 (P : PT) (N2 : NTy k1 Pr) : LQ k3 (L5 P N2) (B20 P N2) := fun ⟨_,_,_,_,_,_,_,_,_⟩ _ ⟨I, μ, h0, hI⟩ => ⟨apT _ I, apT _ μ, h0, fun ⟨_,_,_,_,_,_,_,_,_⟩ _ h => hI _ _ _ _ _ _ _ _ _  h⟩
abbrev k8 : Sk := [(1,.i .u64),(2,.x),(5,.v),(7,.x),(8,.i .u64),(15,.v),(16,.i .i64),(17,.i .i64)]
noncomputable def o21 := ob Try.f113 [.r,.r,.l,.r,.l,.l,.r,.r,.l,.l,.r,.r,.r,.l,.l]
def B21 (P : PT) (N2 : NTy k1 Pr) (x1 : Int) (x2 : Nat) (x5 : Value) (x7 : Nat) (x8 : Int) (x15 : Value) (x16 x17 : Int) (H : AHeap) : Prop :=
  ldI .i64 H x7 0 (fun v1 => newK H [(Value.int .i64 v1)] 2 (fun b2 H3 => L5 P N2 x1 x2 x5 x8 (Value.slice (some ⟨b2, 0, none⟩) 1 (1 + 1)) x15 x16 x17 H3))
theorem q21 (P : PT) (N2 : NTy k1 Pr) : QB Try.prog T0 81 o21 (En 81 k3 (L5 P N2)) k8 (B21 P N2) := fun _ _ _ _ _ _ _ _ _ _  => by kernel_rfl
abbrev k9 : Sk := [(1,.i .u64),(2,.x),(5,.v),(7,.x),(15,.v),(16,.i .i64),(17,.i .i64)]
noncomputable def o22 := ob Try.f113 [.r,.r,.l,.r,.l,.l,.r,.r,.l,.l,.r,.r,.l]
def B22 (P : PT) (N2 : NTy k1 Pr) (x1 : Int) (x2 : Nat) (x5 : Value) (x7 : Nat) (x15 : Value) (x16 x17 : Int) (H : AHeap) : Prop :=
  ldI .i64 H x7 0 (fun v1 => ((0 : Int) ≤ v1) ∧ (B21 P N2 x1 x2 x5 x7 (IntKind.u64.wrap (1 * 2 ^ (min (Int.toNat v1) 64))) x15 x16 x17 H))
theorem q22 (P : PT) (N2 : NTy k1 Pr) : QB Try.prog T0 81 o22 (En 81 k8 (B21 P N2)) k9 (B22 P N2) := fun _ _ _ _ _ _ _ _ _  => by kernel_rfl
noncomputable def o23 := ob Try.f113 [.r,.r,.l,.r,.l,.l,.r,.r,.l,.l,.r,.l,.l]
def B23 (P : PT) (N2 : NTy k1 Pr) (x1 : Int) (x2 : Nat) (x5 : Value) (x7 : Nat) (x15 : Value) (x16 x17 : Int) (H : AHeap) : Prop :=
  lenK x5 (fun n1 => pif (decide (((n1 : Int) : Int) > 0)) (AC Try.prog T0 152 [x5, (Value.func (.func 153) ⟨[]⟩ ⟨[(Value.pointer (some ⟨x7, 0, none⟩))]⟩)] H (fun v2 H3 => asB v2 (fun v4 => pif v4 (B3 P N2 x1 x2 x5 x15 x16 x17 H3) (B22 P N2 x1 x2 x5 x7 x15 x16 x17 H3)))) (B22 P N2 x1 x2 x5 x7 x15 x16 x17 H))
theorem q23 (P : PT) (N2 : NTy k1 Pr) : QB Try.prog T0 81 o23 (cnd 28 (En 81 k1 (B3 P N2)) (En 81 k9 (B22 P N2))) k9 (B23 P N2) := fun _ _ _ _ _ _ _ _ _  => by kernel_rfl
noncomputable def o24 := ob Try.f113 [.r,.r,.l,.r,.l,.l,.r,.r,.l,.l,.l]
def B24 (P : PT) (N2 : NTy k1 Pr) (x1 : Int) (x2 : Nat) (x5 x15 : Value) (x16 x17 : Int) (H : AHeap) : Prop :=
  idxK x15 x17 1 (fun b1 o2 => ldI .i64 H b1 o2 (fun v3 => newK H [(Value.int .i64 0)] 2 (fun b4 H5 => stK H5 b4 0 [(Value.int .i64 v3)] (fun H6 => B23 P N2 x1 x2 x5 b4 x15 x16 x17 H6))))
theorem q24 (P : PT) (N2 : NTy k1 Pr) : QB Try.prog T0 81 o24 (En 81 k9 (B23 P N2)) k1 (B24 P N2) := fun _ _ _ _ _ _ _ _  => by kernel_rfl
noncomputable def o25 := ob Try.f113 [.r,.r,.l,.r,.l,.l,.l]
def B25 (P : PT) (N2 : NTy k1 Pr) (x1 : Int) (x2 : Nat) (x5 x15 : Value) (x16 x17 : Int) (H : AHeap) : Prop :=
  pif (decide ((x17 : Int) < x16)) (B24 P N2 x1 x2 x5 x15 x16 x17 H) (B1 P x5 H)
theorem q25 (P : PT) (N2 : NTy k1 Pr) : QB Try.prog T0 81 o25 (cnd 18 (En 81 k1 (B24 P N2)) (En 81 k0 (B1 P))) k1 (B25 P N2) := fun _ _ _ _ _ _ _ _  => by kernel_rfl
def L2 (P : PT) (x1 : Int) (x2 : Nat) (x5 x15 : Value) (x16 x17 : Int) (H : AHeap) : Prop :=
  ∃ (I : NTy k1 Pr) (μ : NTy k1 (AHeap → Nat)), I x1 x2 x5 x15 x16 x17 H ∧ ∀ y1 y2 y5 y15 y16 y17 G, I y1 y2 y5 y15 y16 y17 G → B25 P (fun z1 z2 z5 z15 z16 z17 G' => I z1 z2 z5 z15 z16 z17 G' ∧ μ z1 z2 z5 z15 z16 z17 G' < μ y1 y2 y5 y15 y16 y17 G) y1 y2 y5 y15 y16 y17 G
theorem l2 (P : PT) : LQ k1 (L2 P) (B25 P) := fun ⟨_,_,_,_,_,_,_⟩ _ ⟨I, μ, h0, hI⟩ => ⟨apT _ I, apT _ μ, h0, fun ⟨_,_,_,_,_,_,_⟩ _ h => hI _ _ _ _ _ _ _  h⟩
abbrev k10 : Sk := [(1,.i .u64),(2,.x),(5,.v)]
noncomputable def o26 := ob Try.f113 [.r,.r,.l,.l]
def B26 (P : PT) (x1 : Int) (x2 : Nat) (x5 : Value) (H : AHeap) : Prop :=
  AC Try.prog T0 82 [(Value.int .u64 x1)] H (fun v1 H2 => lenK v1 (fun n4 => L2 P x1 x2 x5 v1 (n4 : Int) 0 H2))
theorem q26 (P : PT) : QB Try.prog T0 81 o26 (En 81 k1 (L2 P)) k10 (B26 P) := fun _ _ _ _ _  => by kernel_rfl
abbrev k11 : Sk := [(1,.i .u64),(2,.x)]
noncomputable def o27 := ob Try.f113 [.r,.l]
def B27 (P : PT) (x1 : Int) (x2 : Nat) (H : AHeap) : Prop :=
  B26 P x1 x2 (Value.slice none 0 0) H
theorem q27 (P : PT) : QB Try.prog T0 81 o27 (En 81 k10 (B26 P)) k11 (B27 P) := fun _ _ _ _  => by kernel_rfl
abbrev k12 : Sk := [(0,.g [.i,.v]),(1,.i .u64)]
noncomputable def o28 := ob Try.f113 [.l]
def B28 (P : PT) (x0a : Int) (x0b : Value) (x1 : Int) (H : AHeap) : Prop :=
  newK H [(Value.int .i64 x0a), x0b] 31 (fun b1 H2 => B27 P x1 b1 H2)
theorem q28 (P : PT) : QB Try.prog T0 81 o28 (En 81 k11 (B27 P)) k12 (B28 P) := fun _ _ _ _ _  => by kernel_rfl
noncomputable def code : Code := (.seq (.region 0 ⟨o28⟩ false) (.seq (.region 1 ⟨o27⟩ false) (.seq (.seq (.region 2 ⟨o26⟩ false) (.block 0 (.loop (.seq (.region 3 ⟨o25⟩ false) (.seq (.cond (.tmp 18) .skip (.exit 0)) (.seq (.block 1 (.seq (.region 4 ⟨o24⟩ false) (.seq (.seq (.region 5 ⟨o23⟩ false) (.cond (.tmp 28) (.exit 1) .skip)) (.seq (.region 6 ⟨o22⟩ false) (.seq (.seq (.region 7 ⟨o21⟩ false) (.block 2 (.loop (.seq (.seq (.region 8 ⟨o20⟩ false) (.cond (.tmp 35) .skip (.exit 2))) (.seq (.block 3 (.seq (.region 10 ⟨o19⟩ true) (.block 4 (.loop (.seq (.region 11 ⟨o18⟩ false) (.seq (.cond (.tmp 46) .skip (.exit 4)) (.seq (.block 5 (.seq (.region 12 ⟨o17⟩ false) (.seq (.region 13 ⟨o16⟩ false) (.block 6 (.loop (.seq (.region 14 ⟨o15⟩ false) (.seq (.cond (.tmp 53) .skip (.exit 6)) (.seq (.block 7 (.seq (.region 15 ⟨o14⟩ false) (.seq (.region 16 ⟨o13⟩ false) (.cond (.tmp 64) (.seq (.region 17 ⟨o12⟩ false) (.region 18 ⟨o11⟩ false)) .skip)))) (.region 19 ⟨o10⟩ false))))))))) (.region 20 ⟨o8⟩ false)))))))) (.region 9 ⟨o6⟩ false)))))) (.region 21 ⟨o4⟩ false)))))) (.region 22 ⟨o3⟩ false))))))) (.seq (.region 23 ⟨o1⟩ false) .ret))))
theorem body : Try.f113.body = some code := by kernel_rfl
theorem main (P : PT) : ∀ env H, (En 81 k12 (B28 P)) env H → AW Try.prog T0 code env H (mkQ (ret P) (fun _ _ _ => False) (ret P)) :=
  (r_seq (rB T0_ok (q28 P)) (r_seq (rB T0_ok (q27 P)) (r_seq (r_seq (rB T0_ok (q26 P)) (r_block (rL (l2 P) (fun N2 => (r_seq (rB T0_ok (q25 P N2)) (r_seq (r_cond rfl r_skip (r_exit (fun _ _ h => h))) (r_seq (r_block (r_seq (rB T0_ok (q24 P N2)) (r_seq (r_seq (rB T0_ok (q23 P N2)) (r_cond rfl (r_exit (fun _ _ h => h)) r_skip)) (r_seq (rB T0_ok (q22 P N2)) (r_seq (r_seq (rB T0_ok (q21 P N2)) (r_block (rL (l5 P N2) (fun N5 => (r_seq (r_seq (rB T0_ok (q20 P N2 N5)) (r_cond rfl r_skip (r_exit (fun _ _ h => h)))) (r_seq (r_block (r_seq (rD T0_ok mixed [(0, false), (1, false), (2, false), (3, false), (4, false), (5, false), (6, false), (7, false)] (by kernel_rfl) (q19 P N2 N5)) (r_block (rL (l7 P N2 N5) (fun N7 => (r_seq (rB T0_ok (q18 P N2 N5 N7)) (r_seq (r_cond rfl r_skip (r_exit (fun _ _ h => h))) (r_seq (r_block (r_seq (rB T0_ok (q17 P N2 N5 N7)) (r_seq (rB T0_ok (q16 P N2 N5 N7)) (r_block (rL (l9 P N2 N5 N7) (fun N9 => (r_seq (rB T0_ok (q15 P N2 N5 N7 N9)) (r_seq (r_cond rfl r_skip (r_exit (fun _ _ h => h))) (r_seq (r_block (r_seq (rB T0_ok (q14 P N2 N5 N7 N9)) (r_seq (rB T0_ok (q13 P N2 N5 N7 N9)) (r_cond rfl (r_seq (rB T0_ok (q12 P N2 N5 N7 N9)) (rB T0_ok (q11 P N2 N5 N7 N9))) r_skip)))) (rB T0_ok (q10 P N2 N5 N7 N9))))))))))) (rB T0_ok (q8 P N2 N5 N7)))))))))) (rB T0_ok (q6 P N2 N5)))))))) (rB T0_ok (q4 P N2))))))) (rB T0_ok (q3 P N2))))))))) (r_seq (rB T0_ok (q1 P)) r_ret))))
theorem ac (P : PT) (x0a : Int) (x0b : Value) (x1 : Int) (H : AHeap) (h : B28 P x0a x0b x1 H) : AC Try.prog T0 113 [(Value.agg ⟨[(Value.int .i64 x0a), x0b]⟩), (Value.int .u64 x1)] H P :=
  r_fn T0_ok (c := code) (n := 81) Try.func113 body (by kernel_rfl) (main P) (En_mk (x0a, x0b, x1, ()) (by kernel_rfl) ⟨by kernel_rfl, by kernel_rfl, trivial⟩ h)

end F113
-- math/bits.OnesCount64
namespace F115
noncomputable def ret (P : PT) : EP := retE T0 35 Try.f115 P
abbrev k0 : Sk := [(0,.i .u64)]
noncomputable def o1 := ob Try.f115 [.r,.r,.r,.r,.r,.r,.r,.l]
def B1 (P : PT) (x0 : Int) (H : AHeap) : Prop :=
  P (Value.int .i64 (IntKind.i64.wrap (BitVec.ofInt 64 (IntKind.i64.wrap x0) &&& BitVec.ofInt 64 127).toNat)) H
theorem q1 (P : PT) : QB Try.prog T0 35 o1 (ret P) k0 (B1 P) := fun _ _ _  => by kernel_rfl
noncomputable def o2 := ob Try.f115 [.r,.r,.r,.r,.r,.r,.l]
def B2 (P : PT) (x0 : Int) (H : AHeap) : Prop :=
  ((0 : Int) ≤ 32) ∧ (B1 P (IntKind.u64.wrap (x0 + (Int.fdiv x0 (2 ^ (min (Int.toNat 32) 64))))) H)
theorem q2 (P : PT) : QB Try.prog T0 35 o2 (En 35 k0 (B1 P)) k0 (B2 P) := fun _ _ _  => by kernel_rfl
noncomputable def o3 := ob Try.f115 [.r,.r,.r,.r,.r,.l]
def B3 (P : PT) (x0 : Int) (H : AHeap) : Prop :=
  ((0 : Int) ≤ 16) ∧ (B2 P (IntKind.u64.wrap (x0 + (Int.fdiv x0 (2 ^ (min (Int.toNat 16) 64))))) H)
theorem q3 (P : PT) : QB Try.prog T0 35 o3 (En 35 k0 (B2 P)) k0 (B3 P) := fun _ _ _  => by kernel_rfl
noncomputable def o4 := ob Try.f115 [.r,.r,.r,.r,.l]
def B4 (P : PT) (x0 : Int) (H : AHeap) : Prop :=
  ((0 : Int) ≤ 8) ∧ (B3 P (IntKind.u64.wrap (x0 + (Int.fdiv x0 (2 ^ (min (Int.toNat 8) 64))))) H)
theorem q4 (P : PT) : QB Try.prog T0 35 o4 (En 35 k0 (B3 P)) k0 (B4 P) := fun _ _ _  => by kernel_rfl
noncomputable def o5 := ob Try.f115 [.r,.r,.r,.l]
def B5 (P : PT) (x0 : Int) (H : AHeap) : Prop :=
  ((0 : Int) ≤ 4) ∧ (B4 P (IntKind.u64.wrap (BitVec.ofInt 64 (IntKind.u64.wrap ((Int.fdiv x0 (2 ^ (min (Int.toNat 4) 64))) + x0)) &&& BitVec.ofInt 64 1085102592571150095).toNat) H)
theorem q5 (P : PT) : QB Try.prog T0 35 o5 (En 35 k0 (B4 P)) k0 (B5 P) := fun _ _ _  => by kernel_rfl
noncomputable def o6 := ob Try.f115 [.r,.r,.l]
def B6 (P : PT) (x0 : Int) (H : AHeap) : Prop :=
  ((0 : Int) ≤ 2) ∧ (B5 P (IntKind.u64.wrap ((IntKind.u64.wrap (BitVec.ofInt 64 (Int.fdiv x0 (2 ^ (min (Int.toNat 2) 64))) &&& BitVec.ofInt 64 3689348814741910323).toNat) + (IntKind.u64.wrap (BitVec.ofInt 64 x0 &&& BitVec.ofInt 64 3689348814741910323).toNat))) H)
theorem q6 (P : PT) : QB Try.prog T0 35 o6 (En 35 k0 (B5 P)) k0 (B6 P) := fun _ _ _  => by kernel_rfl
noncomputable def o7 := ob Try.f115 [.r,.l]
def B7 (P : PT) (x0 : Int) (H : AHeap) : Prop :=
  ((0 : Int) ≤ 1) ∧ (B6 P (IntKind.u64.wrap ((IntKind.u64.wrap (BitVec.ofInt 64 (Int.fdiv x0 (2 ^ (min (Int.toNat 1) 64))) &&& BitVec.ofInt 64 6148914691236517205).toNat) + (IntKind.u64.wrap (BitVec.ofInt 64 x0 &&& BitVec.ofInt 64 6148914691236517205).toNat))) H)
theorem q7 (P : PT) : QB Try.prog T0 35 o7 (En 35 k0 (B6 P)) k0 (B7 P) := fun _ _ _  => by kernel_rfl
noncomputable def o8 := ob Try.f115 [.l]
def B8 (P : PT) (x0 : Int) (H : AHeap) : Prop :=
  B7 P x0 H
theorem q8 (P : PT) : QB Try.prog T0 35 o8 (En 35 k0 (B7 P)) k0 (B8 P) := fun _ _ _  => by kernel_rfl
noncomputable def code : Code := (.seq (.region 0 ⟨o8⟩ false) (.seq (.region 1 ⟨o7⟩ false) (.seq (.region 2 ⟨o6⟩ false) (.seq (.region 3 ⟨o5⟩ false) (.seq (.region 4 ⟨o4⟩ false) (.seq (.region 5 ⟨o3⟩ false) (.seq (.region 6 ⟨o2⟩ false) (.seq (.region 7 ⟨o1⟩ false) .ret))))))))
theorem body : Try.f115.body = some code := by kernel_rfl
theorem main (P : PT) : ∀ env H, (En 35 k0 (B8 P)) env H → AW Try.prog T0 code env H (mkQ (ret P) (fun _ _ _ => False) (ret P)) :=
  (r_seq (rB T0_ok (q8 P)) (r_seq (rB T0_ok (q7 P)) (r_seq (rB T0_ok (q6 P)) (r_seq (rB T0_ok (q5 P)) (r_seq (rB T0_ok (q4 P)) (r_seq (rB T0_ok (q3 P)) (r_seq (rB T0_ok (q2 P)) (r_seq (rB T0_ok (q1 P)) r_ret))))))))
theorem ac (P : PT) (x0 : Int) (H : AHeap) (h : B8 P x0 H) : AC Try.prog T0 115 [(Value.int .u64 x0)] H P :=
  r_fn T0_ok (c := code) (n := 35) Try.func115 body (by kernel_rfl) (main P) (En_mk (x0, ()) (by kernel_rfl) ⟨by kernel_rfl, trivial⟩ h)

end F115
-- loop.example/g01329/spec.l01Ends
namespace F127
noncomputable def ret (P : PT) : EP := retE T0 61 Try.f127 P
abbrev k0 : Sk := []
noncomputable def o1 := ob Try.f127 [.r,.r,.r,.l]
def B1 (P : PT) (H : AHeap) : Prop :=
  P (Value.int .i64 0) H
theorem q1 (P : PT) : QB Try.prog T0 61 o1 (ret P) k0 (B1 P) := fun _ _  => by kernel_rfl
abbrev k1 : Sk := [(0,.i .i64),(1,.v),(5,.i .i64)]
noncomputable def o3 := ob Try.f127 [.r,.r,.l,.r,.l,.l,.r,.r]
def B3 (P : PT) (N2 : NTy k1 Pr) (x0 : Int) (x1 : Value) (x5 : Int) (H : AHeap) : Prop :=
  N2 x0 x1 (IntKind.i64.wrap (x5 + 1)) H
theorem q3 (P : PT) (N2 : NTy k1 Pr) : QB Try.prog T0 61 o3 (En 61 k1 N2) k1 (B3 P N2) := fun _ _ _ _ _  => by kernel_rfl
noncomputable def o4 := ob Try.f127 [.r,.r,.l,.r,.l,.l,.r,.l,.l,.r,.l,.l]
def B4 (P : PT) (N2 : NTy k1 Pr) (H : AHeap) : Prop :=
  P (Value.int .i64 2) H
theorem q4 (P : PT) (N2 : NTy k1 Pr) : QB Try.prog T0 61 o4 (ret P) k0 (B4 P N2) := fun _ _  => by kernel_rfl
noncomputable def o5 := ob Try.f127 [.r,.r,.l,.r,.l,.l,.r,.l,.l,.l]
def B5 (P : PT) (N2 : NTy k1 Pr) (x0 : Int) (x1 : Value) (x5 : Int) (H : AHeap) : Prop :=
  idxK x1 x5 2 (fun b1 o2 => ldI .i64 H b1 o2 (fun v3 => AC Try.prog T0 49 [(Value.int .i64 v3), (Value.int .i64 0), (Value.int .i64 (IntKind.i64.wrap (x0 - 1)))] H (fun v4 H5 => asB v4 (fun v6 => pif (!v6) (B4 P N2 H5) (idxK x1 x5 2 (fun b7 o8 => ldI .i64 H5 b7 (o8 + 1) (fun v9 => AC Try.prog T0 49 [(Value.int .i64 v9), (Value.int .i64 0), (Value.int .i64 (IntKind.i64.wrap (x0 - 1)))] H5 (fun v10 H11 => asB v10 (fun v12 => pif (!v12) (B4 P N2 H11) (idxK x1 x5 2 (fun b13 o14 => ldI .i64 H11 b13 o14 (fun v15 => idxK x1 x5 2 (fun b16 o17 => ldI .i64 H11 b16 (o17 + 1) (fun v18 => pif ((v15 : Int) == v18) (B4 P N2 H11) (B3 P N2 x0 x1 x5 H11)))))))))))))))
theorem q5 (P : PT) (N2 : NTy k1 Pr) : QD Try.prog T0 61 o5 [(0, false), (1, false), (2, false), (3, false), (4, false), (5, false), (6, false), (7, false), (8, false), (9, false), (10, false), (11, false), (12, false), (13, false), (14, false), (15, false), (16, false), (17, false), (18, false), (19, false), (20, false), (21, false), (22, false), (23, false), (24, false), (25, false), (26, false), (27, false), (28, false), (29, false), (30, false), (31, false), (32, false)] (cnd 60 (En 61 k0 (B4 P N2)) (En 61 k1 (B3 P N2))) k1 (B5 P N2) := fun _ _ _ _ _  => by kernel_rfl
noncomputable def o6 := ob Try.f127 [.r,.r,.l,.r,.l,.l,.l,.l]
def B6 (P : PT) (N2 : NTy k1 Pr) (x0 : Int) (x1 : Value) (x5 : Int) (H : AHeap) : Prop :=
  lenK x1 (fun n1 => pif (decide ((x5 : Int) < (n1 : Int))) (B5 P N2 x0 x1 x5 H) (B1 P H))
theorem q6 (P : PT) (N2 : NTy k1 Pr) : QB Try.prog T0 61 o6 (cnd 25 (En 61 k1 (B5 P N2)) (En 61 k0 (B1 P))) k1 (B6 P N2) := fun _ _ _ _ _  => by kernel_rfl
def L2 (P : PT) (x0 : Int) (x1 : Value) (x5 : Int) (H : AHeap) : Prop :=
  ∃ (I : NTy k1 Pr) (μ : NTy k1 (AHeap → Nat)), I x0 x1 x5 H ∧ ∀ y0 y1 y5 G, I y0 y1 y5 G → B6 P (fun z0 z1 z5 G' => I z0 z1 z5 G' ∧ μ z0 z1 z5 G' < μ y0 y1 y5 G) y0 y1 y5 G
theorem l2 (P : PT) : LQ k1 (L2 P) (B6 P) := fun ⟨_,_,_,_⟩ _ ⟨I, μ, h0, hI⟩ => ⟨apT _ I, apT _ μ, h0, fun ⟨_,_,_,_⟩ _ h => hI _ _ _ _  h⟩
abbrev k2 : Sk := [(0,.i .i64),(1,.v)]
noncomputable def o7 := ob Try.f127 [.r,.r,.l,.l]
def B7 (P : PT) (x0 : Int) (x1 : Value) (H : AHeap) : Prop :=
  L2 P x0 x1 0 H
theorem q7 (P : PT) : QB Try.prog T0 61 o7 (En 61 k1 (L2 P)) k2 (B7 P) := fun _ _ _ _  => by kernel_rfl
noncomputable def o8 := ob Try.f127 [.r,.l,.r,.l,.l]
def B8 (P : PT) (H : AHeap) : Prop :=
  P (Value.int .i64 2) H
theorem q8 (P : PT) : QB Try.prog T0 61 o8 (ret P) k0 (B8 P) := fun _ _  => by kernel_rfl
noncomputable def o9 := ob Try.f127 [.r,.l,.l]
def B9 (P : PT) (x0 : Int) (x1 : Value) (H : AHeap) : Prop :=
  AC Try.prog T0 49 [(Value.int .i64 x0), (Value.int .i64 2), (Value.int .i64 20)] H (fun v1 H2 => asB v1 (fun v3 => pif (!v3) (B8 P H2) (pif ((Int.tmod x0 2 : Int) != 0) (B8 P H2) (lenK x1 (fun n4 => pif (((n4 : Int) : Int) != (IntKind.i64.wrap (Int.tdiv (IntKind.i64.wrap (3 * x0)) 2))) (B8 P H2) (B7 P x0 x1 H2))))))
theorem q9 (P : PT) : QB Try.prog T0 61 o9 (cnd 21 (En 61 k0 (B8 P)) (En 61 k2 (B7 P))) k2 (B9 P) := fun _ _ _ _  => by kernel_rfl
noncomputable def o10 := ob Try.f127 [.l]
def B10 (P : PT) (x0 : Int) (x1 : Value) (H : AHeap) : Prop :=
  B9 P x0 x1 H
theorem q10 (P : PT) : QB Try.prog T0 61 o10 (En 61 k2 (B9 P)) k2 (B10 P) := fun _ _ _ _  => by kernel_rfl
noncomputable def code : Code := (.seq (.region 0 ⟨o10⟩ false) (.seq (.seq (.region 1 ⟨o9⟩ false) (.cond (.tmp 21) (.seq (.region 2 ⟨o8⟩ false) .ret) .skip)) (.seq (.seq (.region 3 ⟨o7⟩ false) (.block 0 (.loop (.seq (.seq (.region 4 ⟨o6⟩ false) (.cond (.tmp 25) .skip (.exit 0))) (.seq (.block 1 (.seq (.region 6 ⟨o5⟩ true) (.cond (.tmp 60) (.seq (.region 7 ⟨o4⟩ false) .ret) .skip))) (.region 5 ⟨o3⟩ false)))))) (.seq (.region 8 ⟨o1⟩ false) .ret))))
theorem body : Try.f127.body = some code := by kernel_rfl
theorem main (P : PT) : ∀ env H, (En 61 k2 (B10 P)) env H → AW Try.prog T0 code env H (mkQ (ret P) (fun _ _ _ => False) (ret P)) :=
  (r_seq (rB T0_ok (q10 P)) (r_seq (r_seq (rB T0_ok (q9 P)) (r_cond rfl (r_seq (rB T0_ok (q8 P)) r_ret) r_skip)) (r_seq (r_seq (rB T0_ok (q7 P)) (r_block (rL (l2 P) (fun N2 => (r_seq (r_seq (rB T0_ok (q6 P N2)) (r_cond rfl r_skip (r_exit (fun _ _ h => h)))) (r_seq (r_block (r_seq (rD T0_ok mixed [(0, false), (1, false), (2, false), (3, false), (4, false), (5, false), (6, false), (7, false), (8, false), (9, false), (10, false), (11, false), (12, false), (13, false), (14, false), (15, false), (16, false), (17, false), (18, false), (19, false), (20, false), (21, false), (22, false), (23, false), (24, false), (25, false), (26, false), (27, false), (28, false), (29, false), (30, false), (31, false), (32, false)] (by kernel_rfl) (q5 P N2)) (r_cond rfl (r_seq (rB T0_ok (q4 P N2)) r_ret) r_skip))) (rB T0_ok (q3 P N2)))))))) (r_seq (rB T0_ok (q1 P)) r_ret))))
theorem ac (P : PT) (x0 : Int) (x1 : Value) (H : AHeap) (h : B10 P x0 x1 H) : AC Try.prog T0 127 [(Value.int .i64 x0), x1] H P :=
  r_fn T0_ok (c := code) (n := 61) Try.func127 body (by kernel_rfl) (main P) (En_mk (x0, x1, ()) (by kernel_rfl) ⟨by kernel_rfl, by kernel_rfl, trivial⟩ h)

end F127
-- loop.example/g01329/spec.l01Cubic
namespace F128
noncomputable def ret (P : PT) : EP := retE T0 46 Try.f128 P
abbrev k0 : Sk := []
noncomputable def o1 := ob Try.f128 [.r,.r,.r,.r,.l]
def B1 (P : PT) (H : AHeap) : Prop :=
  P (Value.bool true) H
theorem q1 (P : PT) : QB Try.prog T0 46 o1 (ret P) k0 (B1 P) := fun _ _  => by kernel_rfl
abbrev k1 : Sk := [(0,.i .i64),(5,.v),(7,.i .i64)]
noncomputable def o3 := ob Try.f128 [.r,.r,.r,.l,.r,.l,.l,.r,.r]
def B3 (P : PT) (N2 : NTy k1 Pr) (x0 : Int) (x5 : Value) (x7 : Int) (H : AHeap) : Prop :=
  N2 x0 x5 (IntKind.i64.wrap (x7 + 1)) H
theorem q3 (P : PT) (N2 : NTy k1 Pr) : QB Try.prog T0 46 o3 (En 46 k1 N2) k1 (B3 P N2) := fun _ _ _ _ _  => by kernel_rfl
noncomputable def o4 := ob Try.f128 [.r,.r,.r,.l,.r,.l,.l,.r,.l,.l,.r,.l,.l]
def B4 (P : PT) (N2 : NTy k1 Pr) (H : AHeap) : Prop :=
  P (Value.bool false) H
theorem q4 (P : PT) (N2 : NTy k1 Pr) : QB Try.prog T0 46 o4 (ret P) k0 (B4 P N2) := fun _ _  => by kernel_rfl
noncomputable def o5 := ob Try.f128 [.r,.r,.r,.l,.r,.l,.l,.r,.l,.l,.l]
def B5 (P : PT) (N2 : NTy k1 Pr) (x0 : Int) (x5 : Value) (x7 : Int) (H : AHeap) : Prop :=
  idxK x5 x7 1 (fun b1 o2 => ldI .i64 H b1 o2 (fun v3 => pif ((v3 : Int) != 3) (B4 P N2 H) (B3 P N2 x0 x5 x7 H)))
theorem q5 (P : PT) (N2 : NTy k1 Pr) : QB Try.prog T0 46 o5 (cnd 45 (En 46 k0 (B4 P N2)) (En 46 k1 (B3 P N2))) k1 (B5 P N2) := fun _ _ _ _ _  => by kernel_rfl
noncomputable def o6 := ob Try.f128 [.r,.r,.r,.l,.r,.l,.l,.l,.l]
def B6 (P : PT) (N2 : NTy k1 Pr) (x0 : Int) (x5 : Value) (x7 : Int) (H : AHeap) : Prop :=
  pif (decide ((x7 : Int) < x0)) (B5 P N2 x0 x5 x7 H) (B1 P H)
theorem q6 (P : PT) (N2 : NTy k1 Pr) : QB Try.prog T0 46 o6 (cnd 38 (En 46 k1 (B5 P N2)) (En 46 k0 (B1 P))) k1 (B6 P N2) := fun _ _ _ _ _  => by kernel_rfl
def L2 (P : PT) (x0 : Int) (x5 : Value) (x7 : Int) (H : AHeap) : Prop :=
  ∃ (I : NTy k1 Pr) (μ : NTy k1 (AHeap → Nat)), I x0 x5 x7 H ∧ ∀ y0 y5 y7 G, I y0 y5 y7 G → B6 P (fun z0 z5 z7 G' => I z0 z5 z7 G' ∧ μ z0 z5 z7 G' < μ y0 y5 y7 G) y0 y5 y7 G
theorem l2 (P : PT) : LQ k1 (L2 P) (B6 P) := fun ⟨_,_,_,_⟩ _ ⟨I, μ, h0, hI⟩ => ⟨apT _ I, apT _ μ, h0, fun ⟨_,_,_,_⟩ _ h => hI _ _ _ _  h⟩
abbrev k2 : Sk := [(0,.i .i64),(5,.v)]
noncomputable def o7 := ob Try.f128 [.r,.r,.r,.l,.l]
def B7 (P : PT) (x0 : Int) (x5 : Value) (H : AHeap) : Prop :=
  L2 P x0 x5 0 H
theorem q7 (P : PT) : QB Try.prog T0 46 o7 (En 46 k1 (L2 P)) k2 (B7 P) := fun _ _ _ _  => by kernel_rfl
abbrev k3 : Sk := [(0,.i .i64),(1,.v),(5,.v),(6,.i .i64)]
noncomputable def o9 := ob Try.f128 [.r,.r,.l,.r,.l,.l,.r,.r]
def B9 (P : PT) (N8 : NTy k3 Pr) (x0 : Int) (x1 x5 : Value) (x6 : Int) (H : AHeap) : Prop :=
  N8 x0 x1 x5 (IntKind.i64.wrap (x6 + 1)) H
theorem q9 (P : PT) (N8 : NTy k3 Pr) : QB Try.prog T0 46 o9 (En 46 k3 N8) k3 (B9 P N8) := fun _ _ _ _ _ _  => by kernel_rfl
noncomputable def o10 := ob Try.f128 [.r,.r,.l,.r,.l,.l,.r,.l,.l,.r]
def B10 (P : PT) (N8 : NTy k3 Pr) (x0 : Int) (x1 x5 : Value) (x6 : Int) (H : AHeap) : Prop :=
  idxK x1 x6 2 (fun b1 o2 => ldI .i64 H b1 (o2 + 1) (fun v3 => idxK x5 v3 1 (fun b4 o5 => ldI .i64 H b4 o5 (fun v6 => idxK x5 v3 1 (fun b7 o8 => stK H b7 o8 [(Value.int .i64 (IntKind.i64.wrap (v6 + 1)))] (fun H9 => B9 P N8 x0 x1 x5 x6 H9))))))
theorem q10 (P : PT) (N8 : NTy k3 Pr) : QB Try.prog T0 46 o10 (En 46 k3 (B9 P N8)) k3 (B10 P N8) := fun _ _ _ _ _ _  => by kernel_rfl
noncomputable def o11 := ob Try.f128 [.r,.r,.l,.r,.l,.l,.r,.l,.l,.l]
def B11 (P : PT) (N8 : NTy k3 Pr) (x0 : Int) (x1 x5 : Value) (x6 : Int) (H : AHeap) : Prop :=
  idxK x1 x6 2 (fun b1 o2 => ldI .i64 H b1 o2 (fun v3 => idxK x5 v3 1 (fun b4 o5 => ldI .i64 H b4 o5 (fun v6 => idxK x5 v3 1 (fun b7 o8 => stK H b7 o8 [(Value.int .i64 (IntKind.i64.wrap (v6 + 1)))] (fun H9 => B10 P N8 x0 x1 x5 x6 H9))))))
theorem q11 (P : PT) (N8 : NTy k3 Pr) : QB Try.prog T0 46 o11 (En 46 k3 (B10 P N8)) k3 (B11 P N8) := fun _ _ _ _ _ _  => by kernel_rfl
noncomputable def o12 := ob Try.f128 [.r,.r,.l,.r,.l,.l,.l,.l]
def B12 (P : PT) (N8 : NTy k3 Pr) (x0 : Int) (x1 x5 : Value) (x6 : Int) (H : AHeap) : Prop :=
  lenK x1 (fun n1 => pif (decide ((x6 : Int) < (n1 : Int))) (B11 P N8 x0 x1 x5 x6 H) (B7 P x0 x5 H))
theorem q12 (P : PT) (N8 : NTy k3 Pr) : QB Try.prog T0 46 o12 (cnd 13 (En 46 k3 (B11 P N8)) (En 46 k2 (B7 P))) k3 (B12 P N8) := fun _ _ _ _ _ _  => by kernel_rfl
def L8 (P : PT) (x0 : Int) (x1 x5 : Value) (x6 : Int) (H : AHeap) : Prop :=
  ∃ (I : NTy k3 Pr) (μ : NTy k3 (AHeap → Nat)), I x0 x1 x5 x6 H ∧ ∀ y0 y1 y5 y6 G, I y0 y1 y5 y6 G → B12 P (fun z0 z1 z5 z6 G' => I z0 z1 z5 z6 G' ∧ μ z0 z1 z5 z6 G' < μ y0 y1 y5 y6 G) y0 y1 y5 y6 G
theorem l8 (P : PT) : LQ k3 (L8 P) (B12 P) := fun ⟨_,_,_,_,_⟩ _ ⟨I, μ, h0, hI⟩ => ⟨apT _ I, apT _ μ, h0, fun ⟨_,_,_,_,_⟩ _ h => hI _ _ _ _ _  h⟩
abbrev k4 : Sk := [(0,.i .i64),(1,.v),(5,.v)]
noncomputable def o13 := ob Try.f128 [.r,.r,.l,.l]
def B13 (P : PT) (x0 : Int) (x1 x5 : Value) (H : AHeap) : Prop :=
  L8 P x0 x1 x5 0 H
theorem q13 (P : PT) : QB Try.prog T0 46 o13 (En 46 k3 (L8 P)) k4 (B13 P) := fun _ _ _ _ _  => by kernel_rfl
abbrev k5 : Sk := [(0,.i .i64),(1,.v)]
noncomputable def o14 := ob Try.f128 [.r,.l]
def B14 (P : PT) (x0 : Int) (x1 : Value) (H : AHeap) : Prop :=
  mkR H 8 2 [(Value.int .i64 0)] x0 x0 (fun v2 H1 => B13 P x0 x1 v2 H1)
theorem q14 (P : PT) : QB Try.prog T0 46 o14 (En 46 k4 (B13 P)) k5 (B14 P) := fun _ _ _ _  => by kernel_rfl
noncomputable def o15 := ob Try.f128 [.l]
def B15 (P : PT) (x0 : Int) (x1 : Value) (H : AHeap) : Prop :=
  B14 P x0 x1 H
theorem q15 (P : PT) : QB Try.prog T0 46 o15 (En 46 k5 (B14 P)) k5 (B15 P) := fun _ _ _ _  => by kernel_rfl
noncomputable def code : Code := (.seq (.region 0 ⟨o15⟩ false) (.seq (.region 1 ⟨o14⟩ false) (.seq (.seq (.region 2 ⟨o13⟩ false) (.block 0 (.loop (.seq (.seq (.region 3 ⟨o12⟩ false) (.cond (.tmp 13) .skip (.exit 0))) (.seq (.block 1 (.seq (.region 5 ⟨o11⟩ false) (.region 6 ⟨o10⟩ false))) (.region 4 ⟨o9⟩ false)))))) (.seq (.seq (.region 7 ⟨o7⟩ false) (.block 2 (.loop (.seq (.seq (.region 8 ⟨o6⟩ false) (.cond (.tmp 38) .skip (.exit 2))) (.seq (.block 3 (.seq (.region 10 ⟨o5⟩ false) (.cond (.tmp 45) (.seq (.region 11 ⟨o4⟩ false) .ret) .skip))) (.region 9 ⟨o3⟩ false)))))) (.seq (.region 12 ⟨o1⟩ false) .ret)))))
theorem body : Try.f128.body = some code := by kernel_rfl
theorem main (P : PT) : ∀ env H, (En 46 k5 (B15 P)) env H → AW Try.prog T0 code env H (mkQ (ret P) (fun _ _ _ => False) (ret P)) :=
  (r_seq (rB T0_ok (q15 P)) (r_seq (rB T0_ok (q14 P)) (r_seq (r_seq (rB T0_ok (q13 P)) (r_block (rL (l8 P) (fun N8 => (r_seq (r_seq (rB T0_ok (q12 P N8)) (r_cond rfl r_skip (r_exit (fun _ _ h => h)))) (r_seq (r_block (r_seq (rB T0_ok (q11 P N8)) (rB T0_ok (q10 P N8)))) (rB T0_ok (q9 P N8)))))))) (r_seq (r_seq (rB T0_ok (q7 P)) (r_block (rL (l2 P) (fun N2 => (r_seq (r_seq (rB T0_ok (q6 P N2)) (r_cond rfl r_skip (r_exit (fun _ _ h => h)))) (r_seq (r_block (r_seq (rB T0_ok (q5 P N2)) (r_cond rfl (r_seq (rB T0_ok (q4 P N2)) r_ret) r_skip))) (rB T0_ok (q3 P N2)))))))) (r_seq (rB T0_ok (q1 P)) r_ret)))))
theorem ac (P : PT) (x0 : Int) (x1 : Value) (H : AHeap) (h : B15 P x0 x1 H) : AC Try.prog T0 128 [(Value.int .i64 x0), x1] H P :=
  r_fn T0_ok (c := code) (n := 46) Try.func128 body (by kernel_rfl) (main P) (En_mk (x0, x1, ()) (by kernel_rfl) ⟨by kernel_rfl, by kernel_rfl, trivial⟩ h)

end F128
-- loop.example/g01329/spec.l01Before
namespace F129
noncomputable def ret (P : PT) : EP := retE T0 24 Try.f129 P
abbrev k0 : Sk := [(2,.x),(3,.x)]
noncomputable def o1 := ob Try.f129 [.r,.l]
def B1 (P : PT) (x2 x3 : Nat) (H : AHeap) : Prop :=
  ldI .i64 H x2 0 (fun v1 => ldI .i64 H x3 0 (fun v2 => pif (decide ((v1 : Int) < v2)) (P (Value.bool true) H) (ldI .i64 H x2 0 (fun v3 => ldI .i64 H x3 0 (fun v4 => pif ((v3 : Int) == v4) (ldI .i64 H x2 1 (fun v5 => ldI .i64 H x3 1 (fun v6 => P (Value.bool (decide ((v5 : Int) < v6))) H))) (P (Value.bool false) H))))))
theorem q1 (P : PT) : QB Try.prog T0 24 o1 (ret P) k0 (B1 P) := fun _ _ _ _  => by kernel_rfl
abbrev k1 : Sk := [(0,.g [.i,.i]),(1,.g [.i,.i])]
noncomputable def o2 := ob Try.f129 [.l]
def B2 (P : PT) (x0a x0b x1a x1b : Int) (H : AHeap) : Prop :=
  newK H [(Value.int .i64 x0a), (Value.int .i64 x0b)] 67 (fun b1 H2 => newK H2 [(Value.int .i64 x1a), (Value.int .i64 x1b)] 67 (fun b3 H4 => B1 P b1 b3 H4))
theorem q2 (P : PT) : QB Try.prog T0 24 o2 (En 24 k0 (B1 P)) k1 (B2 P) := fun _ _ _ _ _ _  => by kernel_rfl
noncomputable def code : Code := (.seq (.region 0 ⟨o2⟩ false) (.seq (.region 1 ⟨o1⟩ false) .ret))
theorem body : Try.f129.body = some code := by kernel_rfl
theorem main (P : PT) : ∀ env H, (En 24 k1 (B2 P)) env H → AW Try.prog T0 code env H (mkQ (ret P) (fun _ _ _ => False) (ret P)) :=
  (r_seq (rB T0_ok (q2 P)) (r_seq (rB T0_ok (q1 P)) r_ret))
theorem ac (P : PT) (x0a x0b x1a x1b : Int) (H : AHeap) (h : B2 P x0a x0b x1a x1b H) : AC Try.prog T0 129 [(Value.agg ⟨[(Value.int .i64 x0a), (Value.int .i64 x0b)]⟩), (Value.agg ⟨[(Value.int .i64 x1a), (Value.int .i64 x1b)]⟩)] H P :=
  r_fn T0_ok (c := code) (n := 24) Try.func129 body (by kernel_rfl) (main P) (En_mk (x0a, x0b, x1a, x1b, ()) (by kernel_rfl) ⟨by kernel_rfl, by kernel_rfl, trivial⟩ h)

end F129
-- loop.example/g01329/impl.areEdges
namespace F131
noncomputable def ret (P : PT) : EP := retE T0 20 Try.f131 P
abbrev k0 : Sk := [(1,.v),(2,.x)]
noncomputable def o1 := ob Try.f131 [.r,.l]
def B1 (P : PT) (x1 : Value) (x2 : Nat) (H : AHeap) : Prop :=
  ldI .i64 H x2 0 (fun v1 => AC Try.prog T0 172 [(Value.int .i64 v1)] H (fun v2 H3 => asB v2 (fun v4 => pif v4 (ldI .i64 H3 x2 0 (fun v5 => AC Try.prog T0 44 [x1] H3 (fun v6 H7 => asI .i64 v6 (fun v8 => (AHeap.le H3 H7) ∧ (pif ((v8 : Int) == (IntKind.i64.wrap (Int.tdiv (IntKind.i64.wrap (3 * v5)) 2))) (AC Try.prog T0 132 [x1, (Value.func (.func 173) ⟨[]⟩ ⟨[(Value.pointer (some ⟨x2, 0, none⟩))]⟩)] H7 (fun v9 H10 => asB v9 (fun v11 => P (Value.bool v11) H10))) (P (Value.bool false) H7)))))) (P (Value.bool false) H3))))
theorem q1 (P : PT) : QD Try.prog T0 20 o1 [(0, false), (1, false), (2, false), (3, false), (5, false), (6, false), (7, false), (4, true), (8, false), (9, false), (10, false), (11, false), (12, false), (13, false), (14, false), (15, false)] (ret P) k0 (B1 P) := fun _ _ _ _  => by kernel_rfl
abbrev k1 : Sk := [(0,.i .i64),(1,.v)]
noncomputable def o2 := ob Try.f131 [.l]
def B2 (P : PT) (x0 : Int) (x1 : Value) (H : AHeap) : Prop :=
  newK H [(Value.int .i64 x0)] 2 (fun b1 H2 => B1 P x1 b1 H2)
theorem q2 (P : PT) : QB Try.prog T0 20 o2 (En 20 k0 (B1 P)) k1 (B2 P) := fun _ _ _ _  => by kernel_rfl
noncomputable def code : Code := (.seq (.region 0 ⟨o2⟩ false) (.seq (.region 1 ⟨o1⟩ true) .ret))
theorem body : Try.f131.body = some code := by kernel_rfl
theorem main (P : PT) : ∀ env H, (En 20 k1 (B2 P)) env H → AW Try.prog T0 code env H (mkQ (ret P) (fun _ _ _ => False) (ret P)) :=
  (r_seq (rB T0_ok (q2 P)) (r_seq (rD T0_ok mixed [(0, false), (1, false), (2, false), (3, false), (5, false), (6, false), (7, false), (4, true), (8, false), (9, false), (10, false), (11, false), (12, false), (13, false), (14, false), (15, false)] (by kernel_rfl) (q1 P)) r_ret))
theorem ac (P : PT) (x0 : Int) (x1 : Value) (H : AHeap) (h : B2 P x0 x1 H) : AC Try.prog T0 131 [(Value.int .i64 x0), x1] H P :=
  r_fn T0_ok (c := code) (n := 20) Try.func131 body (by kernel_rfl) (main P) (En_mk (x0, x1, ()) (by kernel_rfl) ⟨by kernel_rfl, by kernel_rfl, trivial⟩ h)

end F131
-- loop.example/g01329/impl.areAll[loop.example/g01329/impl.Edge]
namespace F132
noncomputable def ret (P : PT) : EP := retE T0 9 Try.f132 P
abbrev k0 : Sk := [(0,.v),(3,.x)]
noncomputable def o1 := ob Try.f132 [.r,.l]
def B1 (P : PT) (x0 : Value) (x3 : Nat) (H : AHeap) : Prop :=
  AC Try.prog T0 174 [x0, (Value.func (.func 175) ⟨[]⟩ ⟨[(Value.pointer (some ⟨x3, 0, none⟩))]⟩)] H (fun v1 H2 => asB v1 (fun v3 => P (Value.bool (!v3)) H2))
theorem q1 (P : PT) : QB Try.prog T0 9 o1 (ret P) k0 (B1 P) := fun _ _ _ _  => by kernel_rfl
abbrev k1 : Sk := [(0,.v),(1,.v)]
noncomputable def o2 := ob Try.f132 [.l]
def B2 (P : PT) (x0 x1 : Value) (H : AHeap) : Prop :=
  pif (Value.oneCell' x1) (newK H [x1] 144 (fun b1 H2 => B1 P x0 b1 H2)) False
theorem q2 (P : PT) : QB Try.prog T0 9 o2 (En 9 k0 (B1 P)) k1 (B2 P) := fun _ _ _ _  => by kernel_rfl
noncomputable def code : Code := (.seq (.region 0 ⟨o2⟩ false) (.seq (.region 1 ⟨o1⟩ false) .ret))
theorem body : Try.f132.body = some code := by kernel_rfl
theorem main (P : PT) : ∀ env H, (En 9 k1 (B2 P)) env H → AW Try.prog T0 code env H (mkQ (ret P) (fun _ _ _ => False) (ret P)) :=
  (r_seq (rB T0_ok (q2 P)) (r_seq (rB T0_ok (q1 P)) r_ret))
theorem ac (P : PT) (x0 x1 : Value) (H : AHeap) (h : B2 P x0 x1 H) : AC Try.prog T0 132 [x0, x1] H P :=
  r_fn T0_ok (c := code) (n := 9) Try.func132 body (by kernel_rfl) (main P) (En_mk (x0, x1, ()) (by kernel_rfl) ⟨by kernel_rfl, by kernel_rfl, trivial⟩ h)

end F132
end Go.Proofs
