import Derived.Test.YtfcflpcmjlbedaaDoorT
set_option linter.unusedVariables false
set_option maxRecDepth 100000
namespace Go.Proofs
open Go.Abs
-- loop.example/g01329/laws.FnExactOddnessOf
namespace F6
noncomputable def ret (P : PT) : EP := retE T0 40 Tryd.f6 P
abbrev k0 : Sk := []
noncomputable def o1 := ob Tryd.f6 [.r,.r,.r,.r,.r,.r,.r,.r,.r,.l]
def B1 (P : PT) (H : AHeap) : Prop :=
  P (Value.bool true) H
theorem q1 (P : PT) : QB Tryd.prog T0 40 o1 (ret P) k0 (B1 P) := fun _ _  => by kernel_rfl
noncomputable def o2 := ob Tryd.f6 [.r,.r,.r,.r,.r,.r,.r,.r,.l,.r,.l,.l]
def B2 (P : PT) (H : AHeap) : Prop :=
  P (Value.bool false) H
theorem q2 (P : PT) : QB Tryd.prog T0 40 o2 (ret P) k0 (B2 P) := fun _ _  => by kernel_rfl
abbrev k1 : Sk := [(1,.x),(6,.x)]
noncomputable def o3 := ob Tryd.f6 [.r,.r,.r,.r,.r,.r,.r,.r,.l,.l]
def B3 (P : PT) (x1 x6 : Nat) (H : AHeap) : Prop :=
  ldI .i64 H x6 0 (fun v1 => ld1 H x6 1 (fun v2 => ldI .i64 H x1 0 (fun v3 => ld1 H x1 1 (fun v4 => AC Tryd.prog T0 9 [(Value.agg ⟨[(Value.int .i64 v3), v4]⟩)] H (fun v5 H6 => agg2 v5 (fun v7 v8 => asI .i64 v7 (fun v9 => (AHeap.le H H6) ∧ (AC Tryd.prog T0 12 [(Value.agg ⟨[(Value.int .i64 v1), v2]⟩), (Value.agg ⟨[(Value.int .i64 v9), v8]⟩)] H6 (fun v11 H12 => asB v11 (fun v13 => pif (!v13) (B2 P H12) (B1 P H12)))))))))))
theorem q3 (P : PT) : QD Tryd.prog T0 40 o3 [(0, false), (1, false), (2, true), (3, false), (4, false)] (cnd 39 (En 40 k0 (B2 P)) (En 40 k0 (B1 P))) k1 (B3 P) := fun _ _ _ _  => by kernel_rfl
noncomputable def o4 := ob Tryd.f6 [.r,.r,.r,.r,.r,.r,.r,.l,.r,.l,.l]
def B4 (P : PT) (H : AHeap) : Prop :=
  P (Value.bool false) H
theorem q4 (P : PT) : QB Tryd.prog T0 40 o4 (ret P) k0 (B4 P) := fun _ _  => by kernel_rfl
abbrev k2 : Sk := [(1,.x),(4,.i .i64),(5,.i .i64),(6,.x),(7,.i .i64),(8,.i .i64)]
noncomputable def o5 := ob Tryd.f6 [.r,.r,.r,.r,.r,.r,.r,.l,.l]
def B5 (P : PT) (x1 : Nat) (x4 x5 : Int) (x6 : Nat) (x7 x8 : Int) (H : AHeap) : Prop :=
  pif ((x7 : Int) != x4) (B4 P H) (pif ((x8 : Int) != x5) (B4 P H) (B3 P x1 x6 H))
theorem q5 (P : PT) : QB Tryd.prog T0 40 o5 (cnd 34 (En 40 k0 (B4 P)) (En 40 k1 (B3 P))) k2 (B5 P) := fun _ _ _ _ _ _ _ _  => by kernel_rfl
abbrev k3 : Sk := [(1,.x),(4,.i .i64),(5,.i .i64),(6,.x)]
noncomputable def o6 := ob Tryd.f6 [.r,.r,.r,.r,.r,.r,.l]
def B6 (P : PT) (x1 : Nat) (x4 x5 : Int) (x6 : Nat) (H : AHeap) : Prop :=
  ldI .i64 H x6 0 (fun v1 => ld1 H x6 1 (fun v2 => AC Tryd.prog T0 24 [(Value.agg ⟨[(Value.int .i64 v1), v2]⟩)] H (fun v3 H4 => tup2 v3 (fun v5 v6 => asI .i64 v5 (fun v7 => asI .i64 v6 (fun v8 => B5 P x1 x4 x5 x6 v7 v8 H4))))))
theorem q6 (P : PT) : QB Tryd.prog T0 40 o6 (En 40 k2 (B5 P)) k3 (B6 P) := fun _ _ _ _ _ _  => by kernel_rfl
abbrev k4 : Sk := [(1,.x),(4,.i .i64),(5,.i .i64)]
noncomputable def o7 := ob Tryd.f6 [.r,.r,.r,.r,.r,.l]
def B7 (P : PT) (x1 : Nat) (x4 x5 : Int) (H : AHeap) : Prop :=
  ldI .i64 H x1 0 (fun v1 => ld1 H x1 1 (fun v2 => AC Tryd.prog T0 9 [(Value.agg ⟨[(Value.int .i64 v1), v2]⟩)] H (fun v3 H4 => agg2 v3 (fun v5 v6 => asI .i64 v5 (fun v7 => newK H4 [(Value.int .i64 0), (Value.slice none 0 0)] 31 (fun b9 H10 => stK H10 b9 0 [(Value.int .i64 v7), v6] (fun H11 => B6 P x1 x4 x5 b9 H11)))))))
theorem q7 (P : PT) : QB Tryd.prog T0 40 o7 (En 40 k3 (B6 P)) k4 (B7 P) := fun _ _ _ _ _  => by kernel_rfl
abbrev k5 : Sk := [(1,.x)]
noncomputable def o8 := ob Tryd.f6 [.r,.r,.r,.r,.l]
def B8 (P : PT) (x1 : Nat) (H : AHeap) : Prop :=
  ldI .i64 H x1 0 (fun v1 => ld1 H x1 1 (fun v2 => AC Tryd.prog T0 9 [(Value.agg ⟨[(Value.int .i64 v1), v2]⟩)] H (fun v3 H4 => agg2 v3 (fun v5 v6 => asI .i64 v5 (fun v7 => AC Tryd.prog T0 23 [(Value.agg ⟨[(Value.int .i64 v7), v6]⟩)] H4 (fun v9 H10 => tup2 v9 (fun v11 v12 => asI .i64 v11 (fun v13 => asI .i64 v12 (fun v14 => B7 P x1 v13 v14 H10)))))))))
theorem q8 (P : PT) : QB Tryd.prog T0 40 o8 (En 40 k4 (B7 P)) k5 (B8 P) := fun _ _ _  => by kernel_rfl
noncomputable def o9 := ob Tryd.f6 [.r,.r,.r,.l,.r,.l,.l]
def B9 (P : PT) (H : AHeap) : Prop :=
  P (Value.bool true) H
theorem q9 (P : PT) : QB Tryd.prog T0 40 o9 (ret P) k0 (B9 P) := fun _ _  => by kernel_rfl
abbrev k6 : Sk := [(1,.x),(3,.i .i64)]
noncomputable def o10 := ob Tryd.f6 [.r,.r,.r,.l,.l]
def B10 (P : PT) (x1 : Nat) (x3 : Int) (H : AHeap) : Prop :=
  pif (decide ((x3 : Int) < 0)) (B9 P H) (B8 P x1 H)
theorem q10 (P : PT) : QB Tryd.prog T0 40 o10 (cnd 13 (En 40 k0 (B9 P)) (En 40 k5 (B8 P))) k6 (B10 P) := fun _ _ _ _  => by kernel_rfl
noncomputable def o11 := ob Tryd.f6 [.r,.r,.l]
def B11 (P : PT) (x1 : Nat) (x3 : Int) (H : AHeap) : Prop :=
  ldI .i64 H x1 0 (fun v1 => ld1 H x1 1 (fun v2 => AC Tryd.prog T0 7 [(Value.agg ⟨[(Value.int .i64 v1), v2]⟩), (Value.int .i64 x3)] H (fun v3 H4 => asI .i64 v3 (fun v5 => B10 P x1 v5 H4))))
theorem q11 (P : PT) : QB Tryd.prog T0 40 o11 (En 40 k6 (B10 P)) k6 (B11 P) := fun _ _ _ _  => by kernel_rfl
noncomputable def o12 := ob Tryd.f6 [.r,.l]
def B12 (P : PT) (x1 : Nat) (H : AHeap) : Prop :=
  B11 P x1 1048576 H
theorem q12 (P : PT) : QB Tryd.prog T0 40 o12 (En 40 k6 (B11 P)) k5 (B12 P) := fun _ _ _  => by kernel_rfl
abbrev k7 : Sk := [(0,.g [.i,.v])]
noncomputable def o13 := ob Tryd.f6 [.l]
def B13 (P : PT) (x0a : Int) (x0b : Value) (H : AHeap) : Prop :=
  newK H [(Value.int .i64 x0a), x0b] 24 (fun b1 H2 => B12 P b1 H2)
theorem q13 (P : PT) : QB Tryd.prog T0 40 o13 (En 40 k5 (B12 P)) k7 (B13 P) := fun _ _ _ _  => by kernel_rfl
noncomputable def code : Code := (.seq (.region 0 ⟨o13⟩ false) (.seq (.region 1 ⟨o12⟩ false) (.seq (.region 2 ⟨o11⟩ false) (.seq (.seq (.region 3 ⟨o10⟩ false) (.cond (.tmp 13) (.seq (.region 4 ⟨o9⟩ false) .ret) .skip)) (.seq (.region 5 ⟨o8⟩ false) (.seq (.region 6 ⟨o7⟩ false) (.seq (.region 7 ⟨o6⟩ false) (.seq (.seq (.region 8 ⟨o5⟩ false) (.cond (.tmp 34) (.seq (.region 9 ⟨o4⟩ false) .ret) .skip)) (.seq (.seq (.region 10 ⟨o3⟩ true) (.cond (.tmp 39) (.seq (.region 11 ⟨o2⟩ false) .ret) .skip)) (.seq (.region 12 ⟨o1⟩ false) .ret))))))))))
theorem body : Tryd.f6.body = some code := by kernel_rfl
theorem main (P : PT) : ∀ env H, (En 40 k7 (B13 P)) env H → AW Tryd.prog T0 code env H (mkQ (ret P) (fun _ _ _ => False) (ret P)) :=
  (r_seq (rB T0_ok (q13 P)) (r_seq (rB T0_ok (q12 P)) (r_seq (rB T0_ok (q11 P)) (r_seq (r_seq (rB T0_ok (q10 P)) (r_cond rfl (r_seq (rB T0_ok (q9 P)) r_ret) r_skip)) (r_seq (rB T0_ok (q8 P)) (r_seq (rB T0_ok (q7 P)) (r_seq (rB T0_ok (q6 P)) (r_seq (r_seq (rB T0_ok (q5 P)) (r_cond rfl (r_seq (rB T0_ok (q4 P)) r_ret) r_skip)) (r_seq (r_seq (rD T0_ok mixed [(0, false), (1, false), (2, true), (3, false), (4, false)] (by kernel_rfl) (q3 P)) (r_cond rfl (r_seq (rB T0_ok (q2 P)) r_ret) r_skip)) (r_seq (rB T0_ok (q1 P)) r_ret))))))))))
theorem ac (P : PT) (x0a : Int) (x0b : Value) (H : AHeap) (h : B13 P x0a x0b H) : AC Tryd.prog T0 6 [(Value.agg ⟨[(Value.int .i64 x0a), x0b]⟩)] H P :=
  r_fn T0_ok (c := code) (n := 40) Tryd.func6 body (by kernel_rfl) (main P) (En_mk (x0a, x0b, ()) (by kernel_rfl) ⟨by kernel_rfl, trivial⟩ h)

end F6
-- loop.example/g01329/laws.szGraph
namespace F7
noncomputable def ret (P : PT) : EP := retE T0 12 Tryd.f7 P
abbrev k0 : Sk := [(1,.i .i64)]
noncomputable def o1 := ob Tryd.f7 [.r,.r,.r,.l]
def B1 (P : PT) (x1 : Int) (H : AHeap) : Prop :=
  P (Value.int .i64 x1) H
theorem q1 (P : PT) : QB Tryd.prog T0 12 o1 (ret P) k0 (B1 P) := fun _ _ _  => by kernel_rfl
abbrev k1 : Sk := []
noncomputable def o2 := ob Tryd.f7 [.r,.r,.l,.r,.l,.l]
def B2 (P : PT) (H : AHeap) : Prop :=
  P (Value.int .i64 (-1)) H
theorem q2 (P : PT) : QB Tryd.prog T0 12 o2 (ret P) k1 (B2 P) := fun _ _  => by kernel_rfl
noncomputable def o3 := ob Tryd.f7 [.r,.r,.l,.l]
def B3 (P : PT) (x1 : Int) (H : AHeap) : Prop :=
  pif (decide ((x1 : Int) < 0)) (B2 P H) (B1 P x1 H)
theorem q3 (P : PT) : QB Tryd.prog T0 12 o3 (cnd 10 (En 12 k1 (B2 P)) (En 12 k0 (B1 P))) k0 (B3 P) := fun _ _ _  => by kernel_rfl
abbrev k2 : Sk := [(1,.i .i64),(2,.x)]
noncomputable def o4 := ob Tryd.f7 [.r,.l]
def B4 (P : PT) (x1 : Int) (x2 : Nat) (H : AHeap) : Prop :=
  ld1 H x2 1 (fun v1 => AC Tryd.prog T0 25 [v1, (Value.int .i64 x1)] H (fun v2 H3 => asI .i64 v2 (fun v4 => B3 P v4 H3)))
theorem q4 (P : PT) : QB Tryd.prog T0 12 o4 (En 12 k0 (B3 P)) k2 (B4 P) := fun _ _ _ _  => by kernel_rfl
abbrev k3 : Sk := [(0,.g [.i,.v]),(1,.i .i64)]
noncomputable def o5 := ob Tryd.f7 [.l]
def B5 (P : PT) (x0a : Int) (x0b : Value) (x1 : Int) (H : AHeap) : Prop :=
  newK H [(Value.int .i64 x0a), x0b] 24 (fun b1 H2 => B4 P x1 b1 H2)
theorem q5 (P : PT) : QB Tryd.prog T0 12 o5 (En 12 k2 (B4 P)) k3 (B5 P) := fun _ _ _ _ _  => by kernel_rfl
noncomputable def code : Code := (.seq (.region 0 ⟨o5⟩ false) (.seq (.region 1 ⟨o4⟩ false) (.seq (.seq (.region 2 ⟨o3⟩ false) (.cond (.tmp 10) (.seq (.region 3 ⟨o2⟩ false) .ret) .skip)) (.seq (.region 4 ⟨o1⟩ false) .ret))))
theorem body : Tryd.f7.body = some code := by kernel_rfl
theorem main (P : PT) : ∀ env H, (En 12 k3 (B5 P)) env H → AW Tryd.prog T0 code env H (mkQ (ret P) (fun _ _ _ => False) (ret P)) :=
  (r_seq (rB T0_ok (q5 P)) (r_seq (rB T0_ok (q4 P)) (r_seq (r_seq (rB T0_ok (q3 P)) (r_cond rfl (r_seq (rB T0_ok (q2 P)) r_ret) r_skip)) (r_seq (rB T0_ok (q1 P)) r_ret))))
theorem ac (P : PT) (x0a : Int) (x0b : Value) (x1 : Int) (H : AHeap) (h : B5 P x0a x0b x1 H) : AC Tryd.prog T0 7 [(Value.agg ⟨[(Value.int .i64 x0a), x0b]⟩), (Value.int .i64 x1)] H P :=
  r_fn T0_ok (c := code) (n := 12) Tryd.func7 body (by kernel_rfl) (main P) (En_mk (x0a, x0b, x1, ()) (by kernel_rfl) ⟨by kernel_rfl, by kernel_rfl, trivial⟩ h)

end F7
-- loop.example/g01329/laws.toGraph
namespace F9
noncomputable def ret (P : PT) : EP := retE T0 12 Tryd.f9 P
abbrev k0 : Sk := [(2,.x),(3,.x)]
noncomputable def o1 := ob Tryd.f9 [.r,.r,.r,.r,.l]
def B1 (P : PT) (x2 x3 : Nat) (H : AHeap) : Prop :=
  ldI .i64 H x3 0 (fun v1 => ld1 H x3 1 (fun v2 => stK H x2 0 [(Value.int .i64 v1), v2] (fun H3 => ldI .i64 H3 x2 0 (fun v4 => ld1 H3 x2 1 (fun v5 => P (Value.agg ⟨[(Value.int .i64 v4), v5]⟩) H3)))))
theorem q1 (P : PT) : QB Tryd.prog T0 12 o1 (ret P) k0 (B1 P) := fun _ _ _ _  => by kernel_rfl
abbrev k1 : Sk := [(1,.x),(2,.x),(3,.x)]
noncomputable def o2 := ob Tryd.f9 [.r,.r,.r,.l]
def B2 (P : PT) (x1 x2 x3 : Nat) (H : AHeap) : Prop :=
  ld1 H x1 1 (fun v1 => AC Tryd.prog T0 29 [v1] H (fun v2 H3 => pif (Value.oneCell' v2) (stK H3 x3 1 [v2] (fun H5 => B1 P x2 x3 H5)) False))
theorem q2 (P : PT) : QB Tryd.prog T0 12 o2 (En 12 k0 (B1 P)) k1 (B2 P) := fun _ _ _ _ _  => by kernel_rfl
noncomputable def o3 := ob Tryd.f9 [.r,.r,.l]
def B3 (P : PT) (x1 x2 x3 : Nat) (H : AHeap) : Prop :=
  ldI .i64 H x1 0 (fun v1 => stK H x3 0 [(Value.int .i64 v1)] (fun H2 => B2 P x1 x2 x3 H2))
theorem q3 (P : PT) : QB Tryd.prog T0 12 o3 (En 12 k1 (B2 P)) k1 (B3 P) := fun _ _ _ _ _  => by kernel_rfl
abbrev k2 : Sk := [(1,.x),(2,.x)]
noncomputable def o4 := ob Tryd.f9 [.r,.l]
def B4 (P : PT) (x1 x2 : Nat) (H : AHeap) : Prop :=
  newK H [(Value.int .i64 0), (Value.slice none 0 0)] 31 (fun b1 H2 => B3 P x1 x2 b1 H2)
theorem q4 (P : PT) : QB Tryd.prog T0 12 o4 (En 12 k1 (B3 P)) k2 (B4 P) := fun _ _ _ _  => by kernel_rfl
abbrev k3 : Sk := [(0,.g [.i,.v])]
noncomputable def o5 := ob Tryd.f9 [.l]
def B5 (P : PT) (x0a : Int) (x0b : Value) (H : AHeap) : Prop :=
  newK H [(Value.int .i64 x0a), x0b] 24 (fun b1 H2 => newK H2 [(Value.int .i64 0), (Value.slice none 0 0)] 31 (fun b3 H4 => B4 P b1 b3 H4))
theorem q5 (P : PT) : QB Tryd.prog T0 12 o5 (En 12 k2 (B4 P)) k3 (B5 P) := fun _ _ _ _  => by kernel_rfl
noncomputable def code : Code := (.seq (.region 0 ⟨o5⟩ false) (.seq (.region 1 ⟨o4⟩ false) (.seq (.region 2 ⟨o3⟩ false) (.seq (.region 3 ⟨o2⟩ false) (.seq (.region 4 ⟨o1⟩ false) .ret)))))
theorem body : Tryd.f9.body = some code := by kernel_rfl
theorem main (P : PT) : ∀ env H, (En 12 k3 (B5 P)) env H → AW Tryd.prog T0 code env H (mkQ (ret P) (fun _ _ _ => False) (ret P)) :=
  (r_seq (rB T0_ok (q5 P)) (r_seq (rB T0_ok (q4 P)) (r_seq (rB T0_ok (q3 P)) (r_seq (rB T0_ok (q2 P)) (r_seq (rB T0_ok (q1 P)) r_ret)))))
theorem ac (P : PT) (x0a : Int) (x0b : Value) (H : AHeap) (h : B5 P x0a x0b H) : AC Tryd.prog T0 9 [(Value.agg ⟨[(Value.int .i64 x0a), x0b]⟩)] H P :=
  r_fn T0_ok (c := code) (n := 12) Tryd.func9 body (by kernel_rfl) (main P) (En_mk (x0a, x0b, ()) (by kernel_rfl) ⟨by kernel_rfl, trivial⟩ h)

end F9
-- loop.example/g01329/laws.eqGraph
namespace F12
noncomputable def ret (P : PT) : EP := retE T0 16 Tryd.f12 P
abbrev k0 : Sk := []
noncomputable def o1 := ob Tryd.f12 [.r,.r,.r,.l]
def B1 (P : PT) (H : AHeap) : Prop :=
  P (Value.bool true) H
theorem q1 (P : PT) : QB Tryd.prog T0 16 o1 (ret P) k0 (B1 P) := fun _ _  => by kernel_rfl
noncomputable def o2 := ob Tryd.f12 [.r,.r,.l,.r,.l,.l]
def B2 (P : PT) (H : AHeap) : Prop :=
  P (Value.bool false) H
theorem q2 (P : PT) : QB Tryd.prog T0 16 o2 (ret P) k0 (B2 P) := fun _ _  => by kernel_rfl
abbrev k1 : Sk := [(2,.x),(3,.x)]
noncomputable def o3 := ob Tryd.f12 [.r,.r,.l,.l]
def B3 (P : PT) (x2 x3 : Nat) (H : AHeap) : Prop :=
  ld1 H x2 1 (fun v1 => ld1 H x3 1 (fun v2 => AC Tryd.prog T0 35 [v1, v2] H (fun v3 H4 => asB v3 (fun v5 => pif (!v5) (B2 P H4) (B1 P H4)))))
theorem q3 (P : PT) : QB Tryd.prog T0 16 o3 (cnd 15 (En 16 k0 (B2 P)) (En 16 k0 (B1 P))) k1 (B3 P) := fun _ _ _ _  => by kernel_rfl
noncomputable def o4 := ob Tryd.f12 [.r,.l,.r,.l,.l]
def B4 (P : PT) (H : AHeap) : Prop :=
  P (Value.bool false) H
theorem q4 (P : PT) : QB Tryd.prog T0 16 o4 (ret P) k0 (B4 P) := fun _ _  => by kernel_rfl
noncomputable def o5 := ob Tryd.f12 [.r,.l,.l]
def B5 (P : PT) (x2 x3 : Nat) (H : AHeap) : Prop :=
  ldI .i64 H x2 0 (fun v1 => ldI .i64 H x3 0 (fun v2 => pif ((v1 : Int) != v2) (B4 P H) (B3 P x2 x3 H)))
theorem q5 (P : PT) : QB Tryd.prog T0 16 o5 (cnd 9 (En 16 k0 (B4 P)) (En 16 k1 (B3 P))) k1 (B5 P) := fun _ _ _ _  => by kernel_rfl
abbrev k2 : Sk := [(0,.g [.i,.v]),(1,.g [.i,.v])]
noncomputable def o6 := ob Tryd.f12 [.l]
def B6 (P : PT) (x0a : Int) (x0b : Value) (x1a : Int) (x1b : Value) (H : AHeap) : Prop :=
  newK H [(Value.int .i64 x0a), x0b] 31 (fun b1 H2 => newK H2 [(Value.int .i64 x1a), x1b] 31 (fun b3 H4 => B5 P b1 b3 H4))
theorem q6 (P : PT) : QB Tryd.prog T0 16 o6 (En 16 k1 (B5 P)) k2 (B6 P) := fun _ _ _ _ _ _  => by kernel_rfl
noncomputable def code : Code := (.seq (.region 0 ⟨o6⟩ false) (.seq (.seq (.region 1 ⟨o5⟩ false) (.cond (.tmp 9) (.seq (.region 2 ⟨o4⟩ false) .ret) .skip)) (.seq (.seq (.region 3 ⟨o3⟩ false) (.cond (.tmp 15) (.seq (.region 4 ⟨o2⟩ false) .ret) .skip)) (.seq (.region 5 ⟨o1⟩ false) .ret))))
theorem body : Tryd.f12.body = some code := by kernel_rfl
theorem main (P : PT) : ∀ env H, (En 16 k2 (B6 P)) env H → AW Tryd.prog T0 code env H (mkQ (ret P) (fun _ _ _ => False) (ret P)) :=
  (r_seq (rB T0_ok (q6 P)) (r_seq (r_seq (rB T0_ok (q5 P)) (r_cond rfl (r_seq (rB T0_ok (q4 P)) r_ret) r_skip)) (r_seq (r_seq (rB T0_ok (q3 P)) (r_cond rfl (r_seq (rB T0_ok (q2 P)) r_ret) r_skip)) (r_seq (rB T0_ok (q1 P)) r_ret))))
theorem ac (P : PT) (x0a : Int) (x0b : Value) (x1a : Int) (x1b : Value) (H : AHeap) (h : B6 P x0a x0b x1a x1b H) : AC Tryd.prog T0 12 [(Value.agg ⟨[(Value.int .i64 x0a), x0b]⟩), (Value.agg ⟨[(Value.int .i64 x1a), x1b]⟩)] H P :=
  r_fn T0_ok (c := code) (n := 16) Tryd.func12 body (by kernel_rfl) (main P) (En_mk (x0a, x0b, x1a, x1b, ()) (by kernel_rfl) ⟨by kernel_rfl, by kernel_rfl, trivial⟩ h)

end F12
-- loop.example/g01329/spec.OddnessOf
namespace F23
noncomputable def ret (P : PT) : EP := retE T0 19 Tryd.f23 P
abbrev k0 : Sk := [(5,.i .i64)]
noncomputable def o1 := ob Tryd.f23 [.r,.r,.r,.r,.l]
def B1 (P : PT) (x5 : Int) (H : AHeap) : Prop :=
  P (Value.tuple ⟨[(Value.int .i64 x5), (Value.int .i64 0)]⟩) H
theorem q1 (P : PT) : QB Tryd.prog T0 19 o1 (ret P) k0 (B1 P) := fun _ _ _  => by kernel_rfl
abbrev k1 : Sk := []
noncomputable def o2 := ob Tryd.f23 [.r,.r,.r,.l,.r,.l,.l]
def B2 (P : PT) (H : AHeap) : Prop :=
  P (Value.tuple ⟨[(Value.int .i64 0), (Value.int .i64 4)]⟩) H
theorem q2 (P : PT) : QB Tryd.prog T0 19 o2 (ret P) k1 (B2 P) := fun _ _  => by kernel_rfl
abbrev k2 : Sk := [(5,.i .i64),(6,.b)]
noncomputable def o3 := ob Tryd.f23 [.r,.r,.r,.l,.l]
def B3 (P : PT) (x5 : Int) (x6 : Bool) (H : AHeap) : Prop :=
  pif (!x6) (B2 P H) (B1 P x5 H)
theorem q3 (P : PT) : QB Tryd.prog T0 19 o3 (cnd 17 (En 19 k1 (B2 P)) (En 19 k0 (B1 P))) k2 (B3 P) := fun _ _ _ _  => by kernel_rfl
abbrev k3 : Sk := [(1,.x)]
noncomputable def o4 := ob Tryd.f23 [.r,.r,.l]
def B4 (P : PT) (x1 : Nat) (H : AHeap) : Prop :=
  ldI .i64 H x1 0 (fun v1 => ld1 H x1 1 (fun v2 => AC Tryd.prog T0 43 [(Value.agg ⟨[(Value.int .i64 v1), v2]⟩)] H (fun v3 H4 => tup3 v3 (fun v5 v6 v7 => asI .i64 v6 (fun v9 => asB v7 (fun v10 => B3 P v9 v10 H4))))))
theorem q4 (P : PT) : QB Tryd.prog T0 19 o4 (En 19 k2 (B3 P)) k3 (B4 P) := fun _ _ _  => by kernel_rfl
noncomputable def o5 := ob Tryd.f23 [.r,.l,.r,.l,.l]
def B5 (P : PT) (H : AHeap) : Prop :=
  P (Value.tuple ⟨[(Value.int .i64 0), (Value.int .i64 1)]⟩) H
theorem q5 (P : PT) : QB Tryd.prog T0 19 o5 (ret P) k1 (B5 P) := fun _ _  => by kernel_rfl
noncomputable def o6 := ob Tryd.f23 [.r,.l,.l]
def B6 (P : PT) (x1 : Nat) (H : AHeap) : Prop :=
  ldI .i64 H x1 0 (fun v1 => ld1 H x1 1 (fun v2 => AC Tryd.prog T0 26 [(Value.agg ⟨[(Value.int .i64 v1), v2]⟩)] H (fun v3 H4 => asB v3 (fun v5 => pif (!v5) (B5 P H4) (B4 P x1 H4)))))
theorem q6 (P : PT) : QB Tryd.prog T0 19 o6 (cnd 9 (En 19 k1 (B5 P)) (En 19 k3 (B4 P))) k3 (B6 P) := fun _ _ _  => by kernel_rfl
abbrev k4 : Sk := [(0,.g [.i,.v])]
noncomputable def o7 := ob Tryd.f23 [.l]
def B7 (P : PT) (x0a : Int) (x0b : Value) (H : AHeap) : Prop :=
  newK H [(Value.int .i64 x0a), x0b] 31 (fun b1 H2 => B6 P b1 H2)
theorem q7 (P : PT) : QB Tryd.prog T0 19 o7 (En 19 k3 (B6 P)) k4 (B7 P) := fun _ _ _ _  => by kernel_rfl
noncomputable def code : Code := (.seq (.region 0 ⟨o7⟩ false) (.seq (.seq (.region 1 ⟨o6⟩ false) (.cond (.tmp 9) (.seq (.region 2 ⟨o5⟩ false) .ret) .skip)) (.seq (.region 3 ⟨o4⟩ false) (.seq (.seq (.region 4 ⟨o3⟩ false) (.cond (.tmp 17) (.seq (.region 5 ⟨o2⟩ false) .ret) .skip)) (.seq (.region 6 ⟨o1⟩ false) .ret)))))
theorem body : Tryd.f23.body = some code := by kernel_rfl
theorem main (P : PT) : ∀ env H, (En 19 k4 (B7 P)) env H → AW Tryd.prog T0 code env H (mkQ (ret P) (fun _ _ _ => False) (ret P)) :=
  (r_seq (rB T0_ok (q7 P)) (r_seq (r_seq (rB T0_ok (q6 P)) (r_cond rfl (r_seq (rB T0_ok (q5 P)) r_ret) r_skip)) (r_seq (rB T0_ok (q4 P)) (r_seq (r_seq (rB T0_ok (q3 P)) (r_cond rfl (r_seq (rB T0_ok (q2 P)) r_ret) r_skip)) (r_seq (rB T0_ok (q1 P)) r_ret)))))
theorem ac (P : PT) (x0a : Int) (x0b : Value) (H : AHeap) (h : B7 P x0a x0b H) : AC Tryd.prog T0 23 [(Value.agg ⟨[(Value.int .i64 x0a), x0b]⟩)] H P :=
  r_fn T0_ok (c := code) (n := 19) Tryd.func23 body (by kernel_rfl) (main P) (En_mk (x0a, x0b, ()) (by kernel_rfl) ⟨by kernel_rfl, trivial⟩ h)

end F23
-- loop.example/g01329/impl.OddnessOf
namespace F24
noncomputable def ret (P : PT) : EP := retE T0 22 Tryd.f24 P
abbrev k0 : Sk := [(6,.i .i64)]
noncomputable def o1 := ob Tryd.f24 [.r,.r,.r,.r,.l]
def B1 (P : PT) (x6 : Int) (H : AHeap) : Prop :=
  P (Value.tuple ⟨[(Value.int .i64 x6), (Value.int .i64 0)]⟩) H
theorem q1 (P : PT) : QB Tryd.prog T0 22 o1 (ret P) k0 (B1 P) := fun _ _ _  => by kernel_rfl
abbrev k1 : Sk := []
noncomputable def o2 := ob Tryd.f24 [.r,.r,.r,.l,.r,.l,.l]
def B2 (P : PT) (H : AHeap) : Prop :=
  P (Value.tuple ⟨[(Value.int .i64 0), (Value.int .i64 4)]⟩) H
theorem q2 (P : PT) : QB Tryd.prog T0 22 o2 (ret P) k1 (B2 P) := fun _ _  => by kernel_rfl
abbrev k2 : Sk := [(6,.i .i64),(7,.b)]
noncomputable def o3 := ob Tryd.f24 [.r,.r,.r,.l,.l]
def B3 (P : PT) (x6 : Int) (x7 : Bool) (H : AHeap) : Prop :=
  pif (!x7) (B2 P H) (B1 P x6 H)
theorem q3 (P : PT) : QB Tryd.prog T0 22 o3 (cnd 20 (En 22 k1 (B2 P)) (En 22 k0 (B1 P))) k2 (B3 P) := fun _ _ _ _  => by kernel_rfl
abbrev k3 : Sk := [(1,.x)]
noncomputable def o4 := ob Tryd.f24 [.r,.r,.l]
def B4 (P : PT) (x1 : Nat) (H : AHeap) : Prop :=
  ldI .i64 H x1 0 (fun v1 => ld1 H x1 1 (fun v2 => AC Tryd.prog T0 44 [(Value.agg ⟨[(Value.int .i64 v1), v2]⟩)] H (fun v3 H4 => tup3 v3 (fun v5 v6 v7 => asI .u64 v5 (fun v8 => asI .i64 v6 (fun v9 => asB v7 (fun v10 => B3 P v9 v10 H4)))))))
theorem q4 (P : PT) : QB Tryd.prog T0 22 o4 (En 22 k2 (B3 P)) k3 (B4 P) := fun _ _ _  => by kernel_rfl
abbrev k4 : Sk := [(4,.i .i64)]
noncomputable def o5 := ob Tryd.f24 [.r,.l,.r,.r,.l,.l]
def B5 (P : PT) (x4 : Int) (H : AHeap) : Prop :=
  P (Value.tuple ⟨[(Value.int .i64 0), (Value.int .i64 x4)]⟩) H
theorem q5 (P : PT) : QB Tryd.prog T0 22 o5 (ret P) k4 (B5 P) := fun _ _ _  => by kernel_rfl
abbrev k5 : Sk := [(1,.x),(4,.i .i64)]
noncomputable def o6 := ob Tryd.f24 [.r,.l,.r,.l]
def B6 (P : PT) (x1 : Nat) (x4 : Int) (H : AHeap) : Prop :=
  pif ((x4 : Int) != 0) (B5 P x4 H) (B4 P x1 H)
theorem q6 (P : PT) : QB Tryd.prog T0 22 o6 (cnd 11 (En 22 k4 (B5 P)) (En 22 k3 (B4 P))) k5 (B6 P) := fun _ _ _ _  => by kernel_rfl
noncomputable def o7 := ob Tryd.f24 [.r,.l,.l]
def B7 (P : PT) (x1 : Nat) (H : AHeap) : Prop :=
  ldI .i64 H x1 0 (fun v1 => ld1 H x1 1 (fun v2 => AC Tryd.prog T0 30 [(Value.agg ⟨[(Value.int .i64 v1), v2]⟩), (Value.bool true)] H (fun v3 H4 => asI .i64 v3 (fun v5 => B6 P x1 v5 H4))))
theorem q7 (P : PT) : QB Tryd.prog T0 22 o7 (En 22 k5 (B6 P)) k3 (B7 P) := fun _ _ _  => by kernel_rfl
abbrev k6 : Sk := [(0,.g [.i,.v])]
noncomputable def o8 := ob Tryd.f24 [.l]
def B8 (P : PT) (x0a : Int) (x0b : Value) (H : AHeap) : Prop :=
  newK H [(Value.int .i64 x0a), x0b] 31 (fun b1 H2 => B7 P b1 H2)
theorem q8 (P : PT) : QB Tryd.prog T0 22 o8 (En 22 k3 (B7 P)) k6 (B8 P) := fun _ _ _ _  => by kernel_rfl
noncomputable def code : Code := (.seq (.region 0 ⟨o8⟩ false) (.seq (.seq (.region 1 ⟨o7⟩ false) (.seq (.region 2 ⟨o6⟩ false) (.cond (.tmp 11) (.seq (.region 3 ⟨o5⟩ false) .ret) .skip))) (.seq (.region 4 ⟨o4⟩ false) (.seq (.seq (.region 5 ⟨o3⟩ false) (.cond (.tmp 20) (.seq (.region 6 ⟨o2⟩ false) .ret) .skip)) (.seq (.region 7 ⟨o1⟩ false) .ret)))))
theorem body : Tryd.f24.body = some code := by kernel_rfl
theorem main (P : PT) : ∀ env H, (En 22 k6 (B8 P)) env H → AW Tryd.prog T0 code env H (mkQ (ret P) (fun _ _ _ => False) (ret P)) :=
  (r_seq (rB T0_ok (q8 P)) (r_seq (r_seq (rB T0_ok (q7 P)) (r_seq (rB T0_ok (q6 P)) (r_cond rfl (r_seq (rB T0_ok (q5 P)) r_ret) r_skip))) (r_seq (rB T0_ok (q4 P)) (r_seq (r_seq (rB T0_ok (q3 P)) (r_cond rfl (r_seq (rB T0_ok (q2 P)) r_ret) r_skip)) (r_seq (rB T0_ok (q1 P)) r_ret)))))
theorem ac (P : PT) (x0a : Int) (x0b : Value) (H : AHeap) (h : B8 P x0a x0b H) : AC Tryd.prog T0 24 [(Value.agg ⟨[(Value.int .i64 x0a), x0b]⟩)] H P :=
  r_fn T0_ok (c := code) (n := 22) Tryd.func24 body (by kernel_rfl) (main P) (En_mk (x0a, x0b, ()) (by kernel_rfl) ⟨by kernel_rfl, trivial⟩ h)

end F24
-- loop.example/g01329/laws.szEdgeS
namespace F25
noncomputable def ret (P : PT) : EP := retE T0 12 Tryd.f25 P
abbrev k0 : Sk := [(1,.i .i64)]
noncomputable def o1 := ob Tryd.f25 [.r,.r,.r,.l]
def B1 (P : PT) (x1 : Int) (H : AHeap) : Prop :=
  P (Value.int .i64 x1) H
theorem q1 (P : PT) : QB Tryd.prog T0 12 o1 (ret P) k0 (B1 P) := fun _ _ _  => by kernel_rfl
abbrev k1 : Sk := []
noncomputable def o2 := ob Tryd.f25 [.r,.r,.l,.r,.l,.l]
def B2 (P : PT) (H : AHeap) : Prop :=
  P (Value.int .i64 (-1)) H
theorem q2 (P : PT) : QB Tryd.prog T0 12 o2 (ret P) k1 (B2 P) := fun _ _  => by kernel_rfl
noncomputable def o3 := ob Tryd.f25 [.r,.r,.l,.l]
def B3 (P : PT) (x1 : Int) (H : AHeap) : Prop :=
  pif (decide ((x1 : Int) < 0)) (B2 P H) (B1 P x1 H)
theorem q3 (P : PT) : QB Tryd.prog T0 12 o3 (cnd 10 (En 12 k1 (B2 P)) (En 12 k0 (B1 P))) k0 (B3 P) := fun _ _ _  => by kernel_rfl
abbrev k2 : Sk := [(0,.v),(1,.i .i64)]
noncomputable def o4 := ob Tryd.f25 [.r,.l]
def B4 (P : PT) (x0 : Value) (x1 : Int) (H : AHeap) : Prop :=
  lenK x0 (fun n1 => B3 P (IntKind.i64.wrap (x1 - (n1 : Int))) H)
theorem q4 (P : PT) : QB Tryd.prog T0 12 o4 (En 12 k0 (B3 P)) k2 (B4 P) := fun _ _ _ _  => by kernel_rfl
noncomputable def o5 := ob Tryd.f25 [.l]
def B5 (P : PT) (x0 : Value) (x1 : Int) (H : AHeap) : Prop :=
  B4 P x0 x1 H
theorem q5 (P : PT) : QB Tryd.prog T0 12 o5 (En 12 k2 (B4 P)) k2 (B5 P) := fun _ _ _ _  => by kernel_rfl
noncomputable def code : Code := (.seq (.region 0 ⟨o5⟩ false) (.seq (.region 1 ⟨o4⟩ false) (.seq (.seq (.region 2 ⟨o3⟩ false) (.cond (.tmp 10) (.seq (.region 3 ⟨o2⟩ false) .ret) .skip)) (.seq (.region 4 ⟨o1⟩ false) .ret))))
theorem body : Tryd.f25.body = some code := by kernel_rfl
theorem main (P : PT) : ∀ env H, (En 12 k2 (B5 P)) env H → AW Tryd.prog T0 code env H (mkQ (ret P) (fun _ _ _ => False) (ret P)) :=
  (r_seq (rB T0_ok (q5 P)) (r_seq (rB T0_ok (q4 P)) (r_seq (r_seq (rB T0_ok (q3 P)) (r_cond rfl (r_seq (rB T0_ok (q2 P)) r_ret) r_skip)) (r_seq (rB T0_ok (q1 P)) r_ret))))
theorem ac (P : PT) (x0 : Value) (x1 : Int) (H : AHeap) (h : B5 P x0 x1 H) : AC Tryd.prog T0 25 [x0, (Value.int .i64 x1)] H P :=
  r_fn T0_ok (c := code) (n := 12) Tryd.func25 body (by kernel_rfl) (main P) (En_mk (x0, x1, ()) (by kernel_rfl) ⟨by kernel_rfl, by kernel_rfl, trivial⟩ h)

end F25
-- loop.example/g01329/spec.l01Is
namespace F26
noncomputable def ret (P : PT) : EP := retE T0 56 Tryd.f26 P
abbrev k0 : Sk := []
noncomputable def o1 := ob Tryd.f26 [.r,.r,.r,.l]
def B1 (P : PT) (H : AHeap) : Prop :=
  P (Value.bool true) H
theorem q1 (P : PT) : QB Tryd.prog T0 56 o1 (ret P) k0 (B1 P) := fun _ _  => by kernel_rfl
abbrev k1 : Sk := [(1,.x),(3,.i .i64)]
noncomputable def o3 := ob Tryd.f26 [.r,.r,.l,.r,.l,.l,.r,.r]
def B3 (P : PT) (N2 : NTy k1 Pr) (x1 : Nat) (x3 : Int) (H : AHeap) : Prop :=
  N2 x1 (IntKind.i64.wrap (x3 + 1)) H
theorem q3 (P : PT) (N2 : NTy k1 Pr) : QB Tryd.prog T0 56 o3 (En 56 k1 N2) k1 (B3 P N2) := fun _ _ _ _  => by kernel_rfl
noncomputable def o4 := ob Tryd.f26 [.r,.r,.l,.r,.l,.l,.r,.l,.l,.r,.l,.l]
def B4 (P : PT) (N2 : NTy k1 Pr) (H : AHeap) : Prop :=
  P (Value.bool false) H
theorem q4 (P : PT) (N2 : NTy k1 Pr) : QB Tryd.prog T0 56 o4 (ret P) k0 (B4 P N2) := fun _ _  => by kernel_rfl
noncomputable def o5 := ob Tryd.f26 [.r,.r,.l,.r,.l,.l,.r,.l,.l,.l]
def B5 (P : PT) (N2 : NTy k1 Pr) (x1 : Nat) (x3 : Int) (H : AHeap) : Prop :=
  ld1 H x1 1 (fun v1 => idxK v1 x3 2 (fun b2 o3 => ldI .i64 H b2 o3 (fun v4 => ld1 H x1 1 (fun v5 => idxK v5 x3 2 (fun b6 o7 => ldI .i64 H b6 (o7 + 1) (fun v8 => pif (decide ((v4 : Int) > v8)) (B4 P N2 H) (pif (decide ((x3 : Int) > 0)) (ld1 H x1 1 (fun v9 => idxK v9 x3 2 (fun b10 o11 => ldI .i64 H b10 o11 (fun v12 => ldI .i64 H b10 (o11 + 1) (fun v13 => ld1 H x1 1 (fun v14 => idxK v14 (IntKind.i64.wrap (x3 - 1)) 2 (fun b15 o16 => ldI .i64 H b15 o16 (fun v17 => ldI .i64 H b15 (o16 + 1) (fun v18 => AC Tryd.prog T0 47 [(Value.agg ⟨[(Value.int .i64 v12), (Value.int .i64 v13)]⟩), (Value.agg ⟨[(Value.int .i64 v17), (Value.int .i64 v18)]⟩)] H (fun v19 H20 => asB v19 (fun v21 => pif v21 (B4 P N2 H20) (B3 P N2 x1 x3 H20)))))))))))) (B3 P N2 x1 x3 H))))))))
theorem q5 (P : PT) (N2 : NTy k1 Pr) : QD Tryd.prog T0 56 o5 [(0, false), (1, false), (2, false), (3, false), (4, false), (5, false), (6, false), (7, false), (8, false), (9, false), (10, false), (11, false), (12, false), (13, false), (14, false), (15, false), (16, false), (17, false), (18, false), (19, false), (20, false), (21, false), (22, false), (23, false), (24, false), (25, false), (26, false), (27, false), (28, false), (29, false), (30, false)] (cnd 55 (En 56 k0 (B4 P N2)) (En 56 k1 (B3 P N2))) k1 (B5 P N2) := fun _ _ _ _  => by kernel_rfl
noncomputable def o6 := ob Tryd.f26 [.r,.r,.l,.r,.l,.l,.l,.l]
def B6 (P : PT) (N2 : NTy k1 Pr) (x1 : Nat) (x3 : Int) (H : AHeap) : Prop :=
  ld1 H x1 1 (fun v1 => lenK v1 (fun n2 => pif (decide ((x3 : Int) < (n2 : Int))) (B5 P N2 x1 x3 H) (B1 P H)))
theorem q6 (P : PT) (N2 : NTy k1 Pr) : QB Tryd.prog T0 56 o6 (cnd 22 (En 56 k1 (B5 P N2)) (En 56 k0 (B1 P))) k1 (B6 P N2) := fun _ _ _ _  => by kernel_rfl
def L2 (P : PT) (x1 : Nat) (x3 : Int) (H : AHeap) : Prop :=
  ∃ (I : NTy k1 Pr) (μ : NTy k1 (AHeap → Nat)), I x1 x3 H ∧ ∀ y1 y3 G, I y1 y3 G → B6 P (fun z1 z3 G' => I z1 z3 G' ∧ μ z1 z3 G' < μ y1 y3 G) y1 y3 G
theorem l2 (P : PT) : LQ k1 (L2 P) (B6 P) := fun ⟨_,_,_⟩ _ ⟨I, μ, h0, hI⟩ => ⟨apT _ I, apT _ μ, h0, fun ⟨_,_,_⟩ _ h => hI _ _ _  h⟩
abbrev k2 : Sk := [(1,.x)]
noncomputable def o7 := ob Tryd.f26 [.r,.r,.l,.l]
def B7 (P : PT) (x1 : Nat) (H : AHeap) : Prop :=
  L2 P x1 0 H
theorem q7 (P : PT) : QB Tryd.prog T0 56 o7 (En 56 k1 (L2 P)) k2 (B7 P) := fun _ _ _  => by kernel_rfl
noncomputable def o8 := ob Tryd.f26 [.r,.l,.r,.l,.l]
def B8 (P : PT) (H : AHeap) : Prop :=
  P (Value.bool false) H
theorem q8 (P : PT) : QB Tryd.prog T0 56 o8 (ret P) k0 (B8 P) := fun _ _  => by kernel_rfl
noncomputable def o9 := ob Tryd.f26 [.r,.l,.l]
def B9 (P : PT) (x1 : Nat) (H : AHeap) : Prop :=
  ldI .i64 H x1 0 (fun v1 => ld1 H x1 1 (fun v2 => AC Tryd.prog T0 45 [(Value.int .i64 v1), v2] H (fun v3 H4 => asI .i64 v3 (fun v5 => pif ((v5 : Int) != 0) (B8 P H4) (ldI .i64 H4 x1 0 (fun v6 => ld1 H4 x1 1 (fun v7 => AC Tryd.prog T0 46 [(Value.int .i64 v6), v7] H4 (fun v8 H9 => asB v8 (fun v10 => pif (!v10) (B8 P H9) (B7 P x1 H9))))))))))
theorem q9 (P : PT) : QB Tryd.prog T0 56 o9 (cnd 17 (En 56 k0 (B8 P)) (En 56 k2 (B7 P))) k2 (B9 P) := fun _ _ _  => by kernel_rfl
abbrev k3 : Sk := [(0,.g [.i,.v])]
noncomputable def o10 := ob Tryd.f26 [.l]
def B10 (P : PT) (x0a : Int) (x0b : Value) (H : AHeap) : Prop :=
  newK H [(Value.int .i64 x0a), x0b] 31 (fun b1 H2 => B9 P b1 H2)
theorem q10 (P : PT) : QB Tryd.prog T0 56 o10 (En 56 k2 (B9 P)) k3 (B10 P) := fun _ _ _ _  => by kernel_rfl
noncomputable def code : Code := (.seq (.region 0 ⟨o10⟩ false) (.seq (.seq (.region 1 ⟨o9⟩ false) (.cond (.tmp 17) (.seq (.region 2 ⟨o8⟩ false) .ret) .skip)) (.seq (.seq (.region 3 ⟨o7⟩ false) (.block 0 (.loop (.seq (.seq (.region 4 ⟨o6⟩ false) (.cond (.tmp 22) .skip (.exit 0))) (.seq (.block 1 (.seq (.region 6 ⟨o5⟩ true) (.cond (.tmp 55) (.seq (.region 7 ⟨o4⟩ false) .ret) .skip))) (.region 5 ⟨o3⟩ false)))))) (.seq (.region 8 ⟨o1⟩ false) .ret))))
theorem body : Tryd.f26.body = some code := by kernel_rfl
theorem main (P : PT) : ∀ env H, (En 56 k3 (B10 P)) env H → AW Tryd.prog T0 code env H (mkQ (ret P) (fun _ _ _ => False) (ret P)) :=
  (r_seq (rB T0_ok (q10 P)) (r_seq (r_seq (rB T0_ok (q9 P)) (r_cond rfl (r_seq (rB T0_ok (q8 P)) r_ret) r_skip)) (r_seq (r_seq (rB T0_ok (q7 P)) (r_block (rL (l2 P) (fun N2 => (r_seq (r_seq (rB T0_ok (q6 P N2)) (r_cond rfl r_skip (r_exit (fun _ _ h => h)))) (r_seq (r_block (r_seq (rD T0_ok mixed [(0, false), (1, false), (2, false), (3, false), (4, false), (5, false), (6, false), (7, false), (8, false), (9, false), (10, false), (11, false), (12, false), (13, false), (14, false), (15, false), (16, false), (17, false), (18, false), (19, false), (20, false), (21, false), (22, false), (23, false), (24, false), (25, false), (26, false), (27, false), (28, false), (29, false), (30, false)] (by kernel_rfl) (q5 P N2)) (r_cond rfl (r_seq (rB T0_ok (q4 P N2)) r_ret) r_skip))) (rB T0_ok (q3 P N2)))))))) (r_seq (rB T0_ok (q1 P)) r_ret))))
theorem ac (P : PT) (x0a : Int) (x0b : Value) (H : AHeap) (h : B10 P x0a x0b H) : AC Tryd.prog T0 26 [(Value.agg ⟨[(Value.int .i64 x0a), x0b]⟩)] H P :=
  r_fn T0_ok (c := code) (n := 56) Tryd.func26 body (by kernel_rfl) (main P) (En_mk (x0a, x0b, ()) (by kernel_rfl) ⟨by kernel_rfl, trivial⟩ h)

end F26
-- loop.example/g01329/spec.l04All
namespace F27
noncomputable def ret (P : PT) : EP := retE T0 7 Tryd.f27 P
abbrev k0 : Sk := [(1,.x)]
noncomputable def o1 := ob Tryd.f27 [.r,.l]
def B1 (P : PT) (x1 : Nat) (H : AHeap) : Prop :=
  ldI .i64 H x1 0 (fun v1 => ld1 H x1 1 (fun v2 => newK H [] 2 (fun b3 H4 => newK H4 [] 26 (fun b5 H6 => AC Tryd.prog T0 48 [(Value.agg ⟨[(Value.int .i64 v1), v2]⟩), (Value.slice (some ⟨b3, 0, none⟩) 0 (0 + 1)), (Value.int .i64 0), (Value.slice (some ⟨b5, 0, none⟩) 0 (0 + 1))] H6 (fun v7 H8 => P v7 H8)))))
theorem q1 (P : PT) : QB Tryd.prog T0 7 o1 (ret P) k0 (B1 P) := fun _ _ _  => by kernel_rfl
abbrev k1 : Sk := [(0,.g [.i,.v])]
noncomputable def o2 := ob Tryd.f27 [.l]
def B2 (P : PT) (x0a : Int) (x0b : Value) (H : AHeap) : Prop :=
  newK H [(Value.int .i64 x0a), x0b] 31 (fun b1 H2 => B1 P b1 H2)
theorem q2 (P : PT) : QB Tryd.prog T0 7 o2 (En 7 k0 (B1 P)) k1 (B2 P) := fun _ _ _ _  => by kernel_rfl
noncomputable def code : Code := (.seq (.region 0 ⟨o2⟩ false) (.seq (.region 1 ⟨o1⟩ false) .ret))
theorem body : Tryd.f27.body = some code := by kernel_rfl
theorem main (P : PT) : ∀ env H, (En 7 k1 (B2 P)) env H → AW Tryd.prog T0 code env H (mkQ (ret P) (fun _ _ _ => False) (ret P)) :=
  (r_seq (rB T0_ok (q2 P)) (r_seq (rB T0_ok (q1 P)) r_ret))
theorem ac (P : PT) (x0a : Int) (x0b : Value) (H : AHeap) (h : B2 P x0a x0b H) : AC Tryd.prog T0 27 [(Value.agg ⟨[(Value.int .i64 x0a), x0b]⟩)] H P :=
  r_fn T0_ok (c := code) (n := 7) Tryd.func27 body (by kernel_rfl) (main P) (En_mk (x0a, x0b, ()) (by kernel_rfl) ⟨by kernel_rfl, trivial⟩ h)

end F27
-- loop.example/g01329/laws.toEdgeS
namespace F29
noncomputable def ret (P : PT) : EP := retE T0 23 Tryd.f29 P
abbrev k0 : Sk := [(3,.v)]
noncomputable def o1 := ob Tryd.f29 [.r,.r,.r,.l]
def B1 (P : PT) (x3 : Value) (H : AHeap) : Prop :=
  P x3 H
theorem q1 (P : PT) : QB Tryd.prog T0 23 o1 (ret P) k0 (B1 P) := fun _ _ _  => by kernel_rfl
abbrev k1 : Sk := [(0,.v),(3,.v),(4,.i .i64)]
noncomputable def o3 := ob Tryd.f29 [.r,.r,.l,.r,.l,.l,.r,.r]
def B3 (P : PT) (N2 : NTy k1 Pr) (x0 x3 : Value) (x4 : Int) (H : AHeap) : Prop :=
  N2 x0 x3 (IntKind.i64.wrap (x4 + 1)) H
theorem q3 (P : PT) (N2 : NTy k1 Pr) : QB Tryd.prog T0 23 o3 (En 23 k1 N2) k1 (B3 P N2) := fun _ _ _ _ _  => by kernel_rfl
noncomputable def o4 := ob Tryd.f29 [.r,.r,.l,.r,.l,.l,.r,.l,.l]
def B4 (P : PT) (N2 : NTy k1 Pr) (x0 x3 : Value) (x4 : Int) (H : AHeap) : Prop :=
  idxK x0 x4 2 (fun b1 o2 => ldI .i64 H b1 o2 (fun v3 => ldI .i64 H b1 (o2 + 1) (fun v4 => AC Tryd.prog T0 50 [(Value.agg ⟨[(Value.int .i64 v3), (Value.int .i64 v4)]⟩)] H (fun v5 H6 => agg2 v5 (fun v7 v8 => asI .i64 v7 (fun v9 => asI .i64 v8 (fun v10 => idxK x3 x4 2 (fun b11 o12 => stK H6 b11 o12 [(Value.int .i64 v9), (Value.int .i64 v10)] (fun H13 => B3 P N2 x0 x3 x4 H13)))))))))
theorem q4 (P : PT) (N2 : NTy k1 Pr) : QB Tryd.prog T0 23 o4 (En 23 k1 (B3 P N2)) k1 (B4 P N2) := fun _ _ _ _ _  => by kernel_rfl
noncomputable def o5 := ob Tryd.f29 [.r,.r,.l,.r,.l,.l,.l,.l]
def B5 (P : PT) (N2 : NTy k1 Pr) (x0 x3 : Value) (x4 : Int) (H : AHeap) : Prop :=
  lenK x0 (fun n1 => pif (decide ((x4 : Int) < (n1 : Int))) (B4 P N2 x0 x3 x4 H) (B1 P x3 H))
theorem q5 (P : PT) (N2 : NTy k1 Pr) : QB Tryd.prog T0 23 o5 (cnd 11 (En 23 k1 (B4 P N2)) (En 23 k0 (B1 P))) k1 (B5 P N2) := fun _ _ _ _ _  => by kernel_rfl
def L2 (P : PT) (x0 x3 : Value) (x4 : Int) (H : AHeap) : Prop :=
  ∃ (I : NTy k1 Pr) (μ : NTy k1 (AHeap → Nat)), I x0 x3 x4 H ∧ ∀ y0 y3 y4 G, I y0 y3 y4 G → B5 P (fun z0 z3 z4 G' => I z0 z3 z4 G' ∧ μ z0 z3 z4 G' < μ y0 y3 y4 G) y0 y3 y4 G
theorem l2 (P : PT) : LQ k1 (L2 P) (B5 P) := fun ⟨_,_,_,_⟩ _ ⟨I, μ, h0, hI⟩ => ⟨apT _ I, apT _ μ, h0, fun ⟨_,_,_,_⟩ _ h => hI _ _ _ _  h⟩
abbrev k2 : Sk := [(0,.v),(3,.v)]
noncomputable def o6 := ob Tryd.f29 [.r,.r,.l,.l]
def B6 (P : PT) (x0 x3 : Value) (H : AHeap) : Prop :=
  L2 P x0 x3 0 H
theorem q6 (P : PT) : QB Tryd.prog T0 23 o6 (En 23 k1 (L2 P)) k2 (B6 P) := fun _ _ _ _  => by kernel_rfl
abbrev k3 : Sk := [(0,.v)]
noncomputable def o7 := ob Tryd.f29 [.r,.l]
def B7 (P : PT) (x0 : Value) (H : AHeap) : Prop :=
  lenK x0 (fun n1 => mkR H 16 74 [(Value.int .i64 0), (Value.int .i64 0)] (n1 : Int) (n1 : Int) (fun v3 H2 => B6 P x0 v3 H2))
theorem q7 (P : PT) : QB Tryd.prog T0 23 o7 (En 23 k2 (B6 P)) k3 (B7 P) := fun _ _ _  => by kernel_rfl
noncomputable def o8 := ob Tryd.f29 [.l]
def B8 (P : PT) (x0 : Value) (H : AHeap) : Prop :=
  B7 P x0 H
theorem q8 (P : PT) : QB Tryd.prog T0 23 o8 (En 23 k3 (B7 P)) k3 (B8 P) := fun _ _ _  => by kernel_rfl
noncomputable def code : Code := (.seq (.region 0 ⟨o8⟩ false) (.seq (.region 1 ⟨o7⟩ false) (.seq (.seq (.region 2 ⟨o6⟩ false) (.block 0 (.loop (.seq (.seq (.region 3 ⟨o5⟩ false) (.cond (.tmp 11) .skip (.exit 0))) (.seq (.block 1 (.region 5 ⟨o4⟩ false)) (.region 4 ⟨o3⟩ false)))))) (.seq (.region 6 ⟨o1⟩ false) .ret))))
theorem body : Tryd.f29.body = some code := by kernel_rfl
theorem main (P : PT) : ∀ env H, (En 23 k3 (B8 P)) env H → AW Tryd.prog T0 code env H (mkQ (ret P) (fun _ _ _ => False) (ret P)) :=
  (r_seq (rB T0_ok (q8 P)) (r_seq (rB T0_ok (q7 P)) (r_seq (r_seq (rB T0_ok (q6 P)) (r_block (rL (l2 P) (fun N2 => (r_seq (r_seq (rB T0_ok (q5 P N2)) (r_cond rfl r_skip (r_exit (fun _ _ h => h)))) (r_seq (r_block (rB T0_ok (q4 P N2))) (rB T0_ok (q3 P N2)))))))) (r_seq (rB T0_ok (q1 P)) r_ret))))
theorem ac (P : PT) (x0 : Value) (H : AHeap) (h : B8 P x0 H) : AC Tryd.prog T0 29 [x0] H P :=
  r_fn T0_ok (c := code) (n := 23) Tryd.func29 body (by kernel_rfl) (main P) (En_mk (x0, ()) (by kernel_rfl) ⟨by kernel_rfl, trivial⟩ h)

end F29
-- loop.example/g01329/impl.graphCode
namespace F30
noncomputable def ret (P : PT) : EP := retE T0 12 Tryd.f30 P
abbrev k0 : Sk := []
noncomputable def o1 := ob Tryd.f30 [.r,.r,.l]
def B1 (P : PT) (H : AHeap) : Prop :=
  P (Value.int .i64 0) H
theorem q1 (P : PT) : QB Tryd.prog T0 12 o1 (ret P) k0 (B1 P) := fun _ _  => by kernel_rfl
noncomputable def o2 := ob Tryd.f30 [.r,.l,.l,.r,.l,.l]
def B2 (P : PT) (H : AHeap) : Prop :=
  P (Value.int .i64 1) H
theorem q2 (P : PT) : QB Tryd.prog T0 12 o2 (ret P) k0 (B2 P) := fun _ _  => by kernel_rfl
noncomputable def o3 := ob Tryd.f30 [.r,.l,.l,.r,.r,.r,.l,.l]
def B3 (P : PT) (H : AHeap) : Prop :=
  P (Value.int .i64 2) H
theorem q3 (P : PT) : QB Tryd.prog T0 12 o3 (ret P) k0 (B3 P) := fun _ _  => by kernel_rfl
abbrev k1 : Sk := [(1,.b)]
noncomputable def o4 := ob Tryd.f30 [.r,.l,.l,.r,.r,.l]
def B4 (P : PT) (x1 : Bool) (H : AHeap) : Prop :=
  pif (!x1) (B3 P H) (B1 P H)
theorem q4 (P : PT) : QB Tryd.prog T0 12 o4 (cnd 9 (En 12 k0 (B3 P)) (En 12 k0 (B1 P))) k1 (B4 P) := fun _ _ _  => by kernel_rfl
abbrev k2 : Sk := [(1,.b),(2,.x)]
noncomputable def o5 := ob Tryd.f30 [.r,.l,.l,.l]
def B5 (P : PT) (x1 : Bool) (x2 : Nat) (H : AHeap) : Prop :=
  ldI .i64 H x2 0 (fun v1 => ld1 H x2 1 (fun v2 => AC Tryd.prog T0 51 [(Value.agg ⟨[(Value.int .i64 v1), v2]⟩)] H (fun v3 H4 => asB v3 (fun v5 => pif (!v5) (B2 P H4) (B4 P x1 H4)))))
theorem q5 (P : PT) : QB Tryd.prog T0 12 o5 (cnd 5 (En 12 k0 (B2 P)) (En 12 k1 (B4 P))) k2 (B5 P) := fun _ _ _ _  => by kernel_rfl
abbrev k3 : Sk := [(0,.g [.i,.v]),(1,.b)]
noncomputable def o6 := ob Tryd.f30 [.l]
def B6 (P : PT) (x0a : Int) (x0b : Value) (x1 : Bool) (H : AHeap) : Prop :=
  newK H [(Value.int .i64 x0a), x0b] 31 (fun b1 H2 => B5 P x1 b1 H2)
theorem q6 (P : PT) : QB Tryd.prog T0 12 o6 (En 12 k2 (B5 P)) k3 (B6 P) := fun _ _ _ _ _  => by kernel_rfl
noncomputable def code : Code := (.seq (.region 0 ⟨o6⟩ false) (.seq (.block 0 (.seq (.region 1 ⟨o5⟩ false) (.cond (.tmp 5) (.seq (.region 2 ⟨o2⟩ false) .ret) (.seq (.region 3 ⟨o4⟩ false) (.cond (.tmp 9) (.seq (.region 4 ⟨o3⟩ false) .ret) .skip))))) (.seq (.region 5 ⟨o1⟩ false) .ret)))
theorem body : Tryd.f30.body = some code := by kernel_rfl
theorem main (P : PT) : ∀ env H, (En 12 k3 (B6 P)) env H → AW Tryd.prog T0 code env H (mkQ (ret P) (fun _ _ _ => False) (ret P)) :=
  (r_seq (rB T0_ok (q6 P)) (r_seq (r_block (r_seq (rB T0_ok (q5 P)) (r_cond rfl (r_seq (rB T0_ok (q2 P)) r_ret) (r_seq (rB T0_ok (q4 P)) (r_cond rfl (r_seq (rB T0_ok (q3 P)) r_ret) r_skip))))) (r_seq (rB T0_ok (q1 P)) r_ret)))
theorem ac (P : PT) (x0a : Int) (x0b : Value) (x1 : Bool) (H : AHeap) (h : B6 P x0a x0b x1 H) : AC Tryd.prog T0 30 [(Value.agg ⟨[(Value.int .i64 x0a), x0b]⟩), (Value.bool x1)] H P :=
  r_fn T0_ok (c := code) (n := 12) Tryd.func30 body (by kernel_rfl) (main P) (En_mk (x0a, x0b, x1, ()) (by kernel_rfl) ⟨by kernel_rfl, by kernel_rfl, trivial⟩ h)

end F30
-- (loop.example/g01329/impl.Graph).every
namespace F31
noncomputable def ret (P : PT) : EP := retE T0 8 Tryd.f31 P
abbrev k0 : Sk := [(1,.x)]
noncomputable def o1 := ob Tryd.f31 [.r,.l]
def B1 (P : PT) (x1 : Nat) (H : AHeap) : Prop :=
  ld1 H x1 1 (fun v1 => lenK v1 (fun n2 => ((0 : Int) ≤ (n2 : Int)) ∧ (P (Value.int .u64 (IntKind.u64.wrap ((IntKind.u64.wrap (1 * 2 ^ (min (Int.toNat (n2 : Int)) 64))) - 1))) H)))
theorem q1 (P : PT) : QB Tryd.prog T0 8 o1 (ret P) k0 (B1 P) := fun _ _ _  => by kernel_rfl
abbrev k1 : Sk := [(0,.g [.i,.v])]
noncomputable def o2 := ob Tryd.f31 [.l]
def B2 (P : PT) (x0a : Int) (x0b : Value) (H : AHeap) : Prop :=
  newK H [(Value.int .i64 x0a), x0b] 31 (fun b1 H2 => B1 P b1 H2)
theorem q2 (P : PT) : QB Tryd.prog T0 8 o2 (En 8 k0 (B1 P)) k1 (B2 P) := fun _ _ _ _  => by kernel_rfl
noncomputable def code : Code := (.seq (.region 0 ⟨o2⟩ false) (.seq (.region 1 ⟨o1⟩ false) .ret))
theorem body : Tryd.f31.body = some code := by kernel_rfl
theorem main (P : PT) : ∀ env H, (En 8 k1 (B2 P)) env H → AW Tryd.prog T0 code env H (mkQ (ret P) (fun _ _ _ => False) (ret P)) :=
  (r_seq (rB T0_ok (q2 P)) (r_seq (rB T0_ok (q1 P)) r_ret))
theorem ac (P : PT) (x0a : Int) (x0b : Value) (H : AHeap) (h : B2 P x0a x0b H) : AC Tryd.prog T0 31 [(Value.agg ⟨[(Value.int .i64 x0a), x0b]⟩)] H P :=
  r_fn T0_ok (c := code) (n := 8) Tryd.func31 body (by kernel_rfl) (main P) (En_mk (x0a, x0b, ()) (by kernel_rfl) ⟨by kernel_rfl, trivial⟩ h)

end F31
-- (loop.example/g01329/impl.Graph).matchings
namespace F32
noncomputable def ret (P : PT) : EP := retE T0 9 Tryd.f32 P
abbrev k0 : Sk := [(5,.x)]
noncomputable def o1 := ob Tryd.f32 [.r,.r,.r,.l]
def B1 (P : PT) (x5 : Nat) (H : AHeap) : Prop :=
  ld1 H x5 0 (fun v1 => callV Tryd.prog T0 v1 [(Value.int .u64 0), (Value.int .u64 0)] H (fun v2 H3 => asB v2 (fun v4 => P (Value.bool v4) H3)))
theorem q1 (P : PT) : QB Tryd.prog T0 9 o1 (ret P) k0 (B1 P) := fun _ _ _  => by kernel_rfl
abbrev k1 : Sk := [(2,.x),(3,.x),(5,.x)]
noncomputable def o2 := ob Tryd.f32 [.r,.r,.l]
def B2 (P : PT) (x2 x3 x5 : Nat) (H : AHeap) : Prop :=
  stK H x5 0 [(Value.func (.func 52) ⟨[]⟩ ⟨[(Value.pointer (some ⟨x2, 0, none⟩)), (Value.pointer (some ⟨x3, 0, none⟩)), (Value.pointer (some ⟨x5, 0, none⟩))]⟩)] (fun H1 => B1 P x5 H1)
theorem q2 (P : PT) : QB Tryd.prog T0 9 o2 (En 9 k0 (B1 P)) k1 (B2 P) := fun _ _ _ _ _  => by kernel_rfl
abbrev k2 : Sk := [(2,.x),(3,.x)]
noncomputable def o3 := ob Tryd.f32 [.r,.l]
def B3 (P : PT) (x2 x3 : Nat) (H : AHeap) : Prop :=
  newK H [Value.nilFunc] 79 (fun b1 H2 => B2 P x2 x3 b1 H2)
theorem q3 (P : PT) : QB Tryd.prog T0 9 o3 (En 9 k1 (B2 P)) k2 (B3 P) := fun _ _ _ _  => by kernel_rfl
abbrev k3 : Sk := [(0,.g [.i,.v]),(1,.v)]
noncomputable def o4 := ob Tryd.f32 [.l]
def B4 (P : PT) (x0a : Int) (x0b x1 : Value) (H : AHeap) : Prop :=
  newK H [(Value.int .i64 x0a), x0b] 31 (fun b1 H2 => pif (Value.oneCell' x1) (newK H2 [x1] 55 (fun b3 H4 => B3 P b1 b3 H4)) False)
theorem q4 (P : PT) : QB Tryd.prog T0 9 o4 (En 9 k2 (B3 P)) k3 (B4 P) := fun _ _ _ _ _  => by kernel_rfl
noncomputable def code : Code := (.seq (.region 0 ⟨o4⟩ false) (.seq (.region 1 ⟨o3⟩ false) (.seq (.region 2 ⟨o2⟩ false) (.seq (.region 3 ⟨o1⟩ false) .ret))))
theorem body : Tryd.f32.body = some code := by kernel_rfl
theorem main (P : PT) : ∀ env H, (En 9 k3 (B4 P)) env H → AW Tryd.prog T0 code env H (mkQ (ret P) (fun _ _ _ => False) (ret P)) :=
  (r_seq (rB T0_ok (q4 P)) (r_seq (rB T0_ok (q3 P)) (r_seq (rB T0_ok (q2 P)) (r_seq (rB T0_ok (q1 P)) r_ret))))
theorem ac (P : PT) (x0a : Int) (x0b x1 : Value) (H : AHeap) (h : B4 P x0a x0b x1 H) : AC Tryd.prog T0 32 [(Value.agg ⟨[(Value.int .i64 x0a), x0b]⟩), x1] H P :=
  r_fn T0_ok (c := code) (n := 9) Tryd.func32 body (by kernel_rfl) (main P) (En_mk (x0a, x0b, x1, ()) (by kernel_rfl) ⟨by kernel_rfl, by kernel_rfl, trivial⟩ h)

end F32
-- (loop.example/g01329/impl.set).list
namespace F34
noncomputable def ret (P : PT) : EP := retE T0 19 Tryd.f34 P
abbrev k0 : Sk := [(3,.v)]
noncomputable def o1 := ob Tryd.f34 [.r,.r,.r,.l]
def B1 (P : PT) (x3 : Value) (H : AHeap) : Prop :=
  P x3 H
theorem q1 (P : PT) : QB Tryd.prog T0 19 o1 (ret P) k0 (B1 P) := fun _ _ _  => by kernel_rfl
abbrev k1 : Sk := [(0,.i .u64),(3,.v),(4,.i .i64)]
noncomputable def o3 := ob Tryd.f34 [.r,.r,.l,.r,.l,.l,.r,.r]
def B3 (P : PT) (N2 : NTy k1 Pr) (x0 : Int) (x3 : Value) (x4 : Int) (H : AHeap) : Prop :=
  N2 x0 x3 (IntKind.i64.wrap (x4 + 1)) H
theorem q3 (P : PT) (N2 : NTy k1 Pr) : QB Tryd.prog T0 19 o3 (En 19 k1 N2) k1 (B3 P N2) := fun _ _ _ _ _  => by kernel_rfl
noncomputable def o4 := ob Tryd.f34 [.r,.r,.l,.r,.l,.l,.r,.l,.l,.r,.l]
def B4 (P : PT) (N2 : NTy k1 Pr) (x0 : Int) (x3 : Value) (x4 : Int) (H : AHeap) : Prop :=
  newK H [(Value.int .i64 x4)] 2 (fun b1 H2 => apK T0 2 H2 x3 (Value.slice (some ⟨b1, 0, none⟩) 1 (1 + 1)) (fun v3 H4 => B3 P N2 x0 v3 x4 H4))
theorem q4 (P : PT) (N2 : NTy k1 Pr) : QB Tryd.prog T0 19 o4 (En 19 k1 (B3 P N2)) k1 (B4 P N2) := fun _ _ _ _ _  => by kernel_rfl
noncomputable def o5 := ob Tryd.f34 [.r,.r,.l,.r,.l,.l,.r,.l,.l,.l]
def B5 (P : PT) (N2 : NTy k1 Pr) (x0 : Int) (x3 : Value) (x4 : Int) (H : AHeap) : Prop :=
  AC Tryd.prog T0 42 [(Value.int .u64 x0), (Value.int .i64 x4)] H (fun v1 H2 => asB v1 (fun v3 => pif v3 (B4 P N2 x0 x3 x4 H2) (B3 P N2 x0 x3 x4 H2)))
theorem q5 (P : PT) (N2 : NTy k1 Pr) : QB Tryd.prog T0 19 o5 (cnd 13 (En 19 k1 (B4 P N2)) (En 19 k1 (B3 P N2))) k1 (B5 P N2) := fun _ _ _ _ _  => by kernel_rfl
noncomputable def o6 := ob Tryd.f34 [.r,.r,.l,.r,.l,.l,.l,.l]
def B6 (P : PT) (N2 : NTy k1 Pr) (x0 : Int) (x3 : Value) (x4 : Int) (H : AHeap) : Prop :=
  ((0 : Int) ≤ x4) ∧ (pif ((Int.fdiv x0 (2 ^ (min (Int.toNat x4) 64)) : Int) != 0) (B5 P N2 x0 x3 x4 H) (B1 P x3 H))
theorem q6 (P : PT) (N2 : NTy k1 Pr) : QB Tryd.prog T0 19 o6 (cnd 8 (En 19 k1 (B5 P N2)) (En 19 k0 (B1 P))) k1 (B6 P N2) := fun _ _ _ _ _  => by kernel_rfl
def L2 (P : PT) (x0 : Int) (x3 : Value) (x4 : Int) (H : AHeap) : Prop :=
  ∃ (I : NTy k1 Pr) (μ : NTy k1 (AHeap → Nat)), I x0 x3 x4 H ∧ ∀ y0 y3 y4 G, I y0 y3 y4 G → B6 P (fun z0 z3 z4 G' => I z0 z3 z4 G' ∧ μ z0 z3 z4 G' < μ y0 y3 y4 G) y0 y3 y4 G
theorem l2 (P : PT) : LQ k1 (L2 P) (B6 P) := fun ⟨_,_,_,_⟩ _ ⟨I, μ, h0, hI⟩ => ⟨apT _ I, apT _ μ, h0, fun ⟨_,_,_,_⟩ _ h => hI _ _ _ _  h⟩
abbrev k2 : Sk := [(0,.i .u64),(3,.v)]
noncomputable def o7 := ob Tryd.f34 [.r,.r,.l,.l]
def B7 (P : PT) (x0 : Int) (x3 : Value) (H : AHeap) : Prop :=
  L2 P x0 x3 0 H
theorem q7 (P : PT) : QB Tryd.prog T0 19 o7 (En 19 k1 (L2 P)) k2 (B7 P) := fun _ _ _ _  => by kernel_rfl
abbrev k3 : Sk := [(0,.i .u64)]
noncomputable def o8 := ob Tryd.f34 [.r,.l]
def B8 (P : PT) (x0 : Int) (H : AHeap) : Prop :=
  B7 P x0 (Value.slice none 0 0) H
theorem q8 (P : PT) : QB Tryd.prog T0 19 o8 (En 19 k2 (B7 P)) k3 (B8 P) := fun _ _ _  => by kernel_rfl
noncomputable def o9 := ob Tryd.f34 [.l]
def B9 (P : PT) (x0 : Int) (H : AHeap) : Prop :=
  B8 P x0 H
theorem q9 (P : PT) : QB Tryd.prog T0 19 o9 (En 19 k3 (B8 P)) k3 (B9 P) := fun _ _ _  => by kernel_rfl
noncomputable def code : Code := (.seq (.region 0 ⟨o9⟩ false) (.seq (.region 1 ⟨o8⟩ false) (.seq (.seq (.region 2 ⟨o7⟩ false) (.block 0 (.loop (.seq (.seq (.region 3 ⟨o6⟩ false) (.cond (.tmp 8) .skip (.exit 0))) (.seq (.block 1 (.seq (.region 5 ⟨o5⟩ false) (.cond (.tmp 13) (.region 6 ⟨o4⟩ false) .skip))) (.region 4 ⟨o3⟩ false)))))) (.seq (.region 7 ⟨o1⟩ false) .ret))))
theorem body : Tryd.f34.body = some code := by kernel_rfl
theorem main (P : PT) : ∀ env H, (En 19 k3 (B9 P)) env H → AW Tryd.prog T0 code env H (mkQ (ret P) (fun _ _ _ => False) (ret P)) :=
  (r_seq (rB T0_ok (q9 P)) (r_seq (rB T0_ok (q8 P)) (r_seq (r_seq (rB T0_ok (q7 P)) (r_block (rL (l2 P) (fun N2 => (r_seq (r_seq (rB T0_ok (q6 P N2)) (r_cond rfl r_skip (r_exit (fun _ _ h => h)))) (r_seq (r_block (r_seq (rB T0_ok (q5 P N2)) (r_cond rfl (rB T0_ok (q4 P N2)) r_skip))) (rB T0_ok (q3 P N2)))))))) (r_seq (rB T0_ok (q1 P)) r_ret))))
theorem ac (P : PT) (x0 : Int) (H : AHeap) (h : B9 P x0 H) : AC Tryd.prog T0 34 [(Value.int .u64 x0)] H P :=
  r_fn T0_ok (c := code) (n := 19) Tryd.func34 body (by kernel_rfl) (main P) (En_mk (x0, ()) (by kernel_rfl) ⟨by kernel_rfl, trivial⟩ h)

end F34
-- loop.example/g01329/laws.eqEdgeS
namespace F35
noncomputable def ret (P : PT) : EP := retE T0 27 Tryd.f35 P
abbrev k0 : Sk := []
noncomputable def o1 := ob Tryd.f35 [.r,.r,.r,.l]
def B1 (P : PT) (H : AHeap) : Prop :=
  P (Value.bool true) H
theorem q1 (P : PT) : QB Tryd.prog T0 27 o1 (ret P) k0 (B1 P) := fun _ _  => by kernel_rfl
abbrev k1 : Sk := [(0,.v),(1,.v),(5,.i .i64)]
noncomputable def o3 := ob Tryd.f35 [.r,.r,.l,.r,.l,.l,.r,.r]
def B3 (P : PT) (N2 : NTy k1 Pr) (x0 x1 : Value) (x5 : Int) (H : AHeap) : Prop :=
  N2 x0 x1 (IntKind.i64.wrap (x5 + 1)) H
theorem q3 (P : PT) (N2 : NTy k1 Pr) : QB Tryd.prog T0 27 o3 (En 27 k1 N2) k1 (B3 P N2) := fun _ _ _ _ _  => by kernel_rfl
noncomputable def o4 := ob Tryd.f35 [.r,.r,.l,.r,.l,.l,.r,.l,.l,.r,.l,.l]
def B4 (P : PT) (N2 : NTy k1 Pr) (H : AHeap) : Prop :=
  P (Value.bool false) H
theorem q4 (P : PT) (N2 : NTy k1 Pr) : QB Tryd.prog T0 27 o4 (ret P) k0 (B4 P N2) := fun _ _  => by kernel_rfl
noncomputable def o5 := ob Tryd.f35 [.r,.r,.l,.r,.l,.l,.r,.l,.l,.l]
def B5 (P : PT) (N2 : NTy k1 Pr) (x0 x1 : Value) (x5 : Int) (H : AHeap) : Prop :=
  idxK x0 x5 2 (fun b1 o2 => ldI .i64 H b1 o2 (fun v3 => ldI .i64 H b1 (o2 + 1) (fun v4 => idxK x1 x5 2 (fun b5 o6 => ldI .i64 H b5 o6 (fun v7 => ldI .i64 H b5 (o6 + 1) (fun v8 => AC Tryd.prog T0 56 [(Value.agg ⟨[(Value.int .i64 v3), (Value.int .i64 v4)]⟩), (Value.agg ⟨[(Value.int .i64 v7), (Value.int .i64 v8)]⟩)] H (fun v9 H10 => asB v9 (fun v11 => pif (!v11) (B4 P N2 H10) (B3 P N2 x0 x1 x5 H10)))))))))
theorem q5 (P : PT) (N2 : NTy k1 Pr) : QD Tryd.prog T0 27 o5 [(0, false), (1, false), (2, false), (3, false), (4, false), (5, false), (6, false), (7, false), (8, false), (9, false)] (cnd 26 (En 27 k0 (B4 P N2)) (En 27 k1 (B3 P N2))) k1 (B5 P N2) := fun _ _ _ _ _  => by kernel_rfl
noncomputable def o6 := ob Tryd.f35 [.r,.r,.l,.r,.l,.l,.l,.l]
def B6 (P : PT) (N2 : NTy k1 Pr) (x0 x1 : Value) (x5 : Int) (H : AHeap) : Prop :=
  lenK x0 (fun n1 => pif (decide ((x5 : Int) < (n1 : Int))) (B5 P N2 x0 x1 x5 H) (B1 P H))
theorem q6 (P : PT) (N2 : NTy k1 Pr) : QB Tryd.prog T0 27 o6 (cnd 14 (En 27 k1 (B5 P N2)) (En 27 k0 (B1 P))) k1 (B6 P N2) := fun _ _ _ _ _  => by kernel_rfl
def L2 (P : PT) (x0 x1 : Value) (x5 : Int) (H : AHeap) : Prop :=
  ∃ (I : NTy k1 Pr) (μ : NTy k1 (AHeap → Nat)), I x0 x1 x5 H ∧ ∀ y0 y1 y5 G, I y0 y1 y5 G → B6 P (fun z0 z1 z5 G' => I z0 z1 z5 G' ∧ μ z0 z1 z5 G' < μ y0 y1 y5 G) y0 y1 y5 G
theorem l2 (P : PT) : LQ k1 (L2 P) (B6 P) := fun ⟨_,_,_,_⟩ _ ⟨I, μ, h0, hI⟩ => ⟨apT _ I, apT _ μ, h0, fun ⟨_,_,_,_⟩ _ h => hI _ _ _ _  h⟩
abbrev k2 : Sk := [(0,.v),(1,.v)]
noncomputable def o7 := ob Tryd.f35 [.r,.r,.l,.l]
def B7 (P : PT) (x0 x1 : Value) (H : AHeap) : Prop :=
  L2 P x0 x1 0 H
theorem q7 (P : PT) : QB Tryd.prog T0 27 o7 (En 27 k1 (L2 P)) k2 (B7 P) := fun _ _ _ _  => by kernel_rfl
noncomputable def o8 := ob Tryd.f35 [.r,.l,.r,.l,.l]
def B8 (P : PT) (H : AHeap) : Prop :=
  P (Value.bool false) H
theorem q8 (P : PT) : QB Tryd.prog T0 27 o8 (ret P) k0 (B8 P) := fun _ _  => by kernel_rfl
noncomputable def o9 := ob Tryd.f35 [.r,.l,.l]
def B9 (P : PT) (x0 x1 : Value) (H : AHeap) : Prop :=
  lenK x0 (fun n1 => lenK x1 (fun n2 => pif (((n1 : Int) : Int) != (n2 : Int)) (B8 P H) (B7 P x0 x1 H)))
theorem q9 (P : PT) : QB Tryd.prog T0 27 o9 (cnd 10 (En 27 k0 (B8 P)) (En 27 k2 (B7 P))) k2 (B9 P) := fun _ _ _ _  => by kernel_rfl
noncomputable def o10 := ob Tryd.f35 [.l]
def B10 (P : PT) (x0 x1 : Value) (H : AHeap) : Prop :=
  B9 P x0 x1 H
theorem q10 (P : PT) : QB Tryd.prog T0 27 o10 (En 27 k2 (B9 P)) k2 (B10 P) := fun _ _ _ _  => by kernel_rfl
noncomputable def code : Code := (.seq (.region 0 ⟨o10⟩ false) (.seq (.seq (.region 1 ⟨o9⟩ false) (.cond (.tmp 10) (.seq (.region 2 ⟨o8⟩ false) .ret) .skip)) (.seq (.seq (.region 3 ⟨o7⟩ false) (.block 0 (.loop (.seq (.seq (.region 4 ⟨o6⟩ false) (.cond (.tmp 14) .skip (.exit 0))) (.seq (.block 1 (.seq (.region 6 ⟨o5⟩ true) (.cond (.tmp 26) (.seq (.region 7 ⟨o4⟩ false) .ret) .skip))) (.region 5 ⟨o3⟩ false)))))) (.seq (.region 8 ⟨o1⟩ false) .ret))))
theorem body : Tryd.f35.body = some code := by kernel_rfl
theorem main (P : PT) : ∀ env H, (En 27 k2 (B10 P)) env H → AW Tryd.prog T0 code env H (mkQ (ret P) (fun _ _ _ => False) (ret P)) :=
  (r_seq (rB T0_ok (q10 P)) (r_seq (r_seq (rB T0_ok (q9 P)) (r_cond rfl (r_seq (rB T0_ok (q8 P)) r_ret) r_skip)) (r_seq (r_seq (rB T0_ok (q7 P)) (r_block (rL (l2 P) (fun N2 => (r_seq (r_seq (rB T0_ok (q6 P N2)) (r_cond rfl r_skip (r_exit (fun _ _ h => h)))) (r_seq (r_block (r_seq (rD T0_ok mixed [(0, false), (1, false), (2, false), (3, false), (4, false), (5, false), (6, false), (7, false), (8, false), (9, false)] (by kernel_rfl) (q5 P N2)) (r_cond rfl (r_seq (rB T0_ok (q4 P N2)) r_ret) r_skip))) (rB T0_ok (q3 P N2)))))))) (r_seq (rB T0_ok (q1 P)) r_ret))))
theorem ac (P : PT) (x0 x1 : Value) (H : AHeap) (h : B10 P x0 x1 H) : AC Tryd.prog T0 35 [x0, x1] H P :=
  r_fn T0_ok (c := code) (n := 27) Tryd.func35 body (by kernel_rfl) (main P) (En_mk (x0, x1, ()) (by kernel_rfl) ⟨by kernel_rfl, by kernel_rfl, trivial⟩ h)

end F35
-- slices.ContainsFunc[[]loop.example/g01329/impl.set,loop.example/g01329/impl.set]
namespace F40
noncomputable def ret (P : PT) : EP := retE T0 9 Tryd.f40 P
abbrev k0 : Sk := [(0,.v),(1,.v)]
noncomputable def o1 := ob Tryd.f40 [.r,.l]
def B1 (P : PT) (x0 x1 : Value) (H : AHeap) : Prop :=
  AC Tryd.prog T0 58 [x0, x1] H (fun v1 H2 => asI .i64 v1 (fun v3 => P (Value.bool (decide ((v3 : Int) ≥ 0))) H2))
theorem q1 (P : PT) : QB Tryd.prog T0 9 o1 (ret P) k0 (B1 P) := fun _ _ _ _  => by kernel_rfl
noncomputable def o2 := ob Tryd.f40 [.l]
def B2 (P : PT) (x0 x1 : Value) (H : AHeap) : Prop :=
  B1 P x0 x1 H
theorem q2 (P : PT) : QB Tryd.prog T0 9 o2 (En 9 k0 (B1 P)) k0 (B2 P) := fun _ _ _ _  => by kernel_rfl
noncomputable def code : Code := (.seq (.region 0 ⟨o2⟩ false) (.seq (.region 1 ⟨o1⟩ false) .ret))
theorem body : Tryd.f40.body = some code := by kernel_rfl
theorem main (P : PT) : ∀ env H, (En 9 k0 (B2 P)) env H → AW Tryd.prog T0 code env H (mkQ (ret P) (fun _ _ _ => False) (ret P)) :=
  (r_seq (rB T0_ok (q2 P)) (r_seq (rB T0_ok (q1 P)) r_ret))
theorem ac (P : PT) (x0 x1 : Value) (H : AHeap) (h : B2 P x0 x1 H) : AC Tryd.prog T0 40 [x0, x1] H P :=
  r_fn T0_ok (c := code) (n := 9) Tryd.func40 body (by kernel_rfl) (main P) (En_mk (x0, x1, ()) (by kernel_rfl) ⟨by kernel_rfl, by kernel_rfl, trivial⟩ h)

end F40
-- (loop.example/g01329/impl.set).has
namespace F42
noncomputable def ret (P : PT) : EP := retE T0 10 Tryd.f42 P
abbrev k0 : Sk := [(0,.i .u64),(1,.i .i64)]
noncomputable def o1 := ob Tryd.f42 [.r,.l]
def B1 (P : PT) (x0 x1 : Int) (H : AHeap) : Prop :=
  ((0 : Int) ≤ x1) ∧ (P (Value.bool ((IntKind.u64.wrap (BitVec.ofInt 64 (Int.fdiv x0 (2 ^ (min (Int.toNat x1) 64))) &&& BitVec.ofInt 64 1).toNat : Int) == 1)) H)
theorem q1 (P : PT) : QB Tryd.prog T0 10 o1 (ret P) k0 (B1 P) := fun _ _ _ _  => by kernel_rfl
noncomputable def o2 := ob Tryd.f42 [.l]
def B2 (P : PT) (x0 x1 : Int) (H : AHeap) : Prop :=
  B1 P x0 x1 H
theorem q2 (P : PT) : QB Tryd.prog T0 10 o2 (En 10 k0 (B1 P)) k0 (B2 P) := fun _ _ _ _  => by kernel_rfl
noncomputable def code : Code := (.seq (.region 0 ⟨o2⟩ false) (.seq (.region 1 ⟨o1⟩ false) .ret))
theorem body : Tryd.f42.body = some code := by kernel_rfl
theorem main (P : PT) : ∀ env H, (En 10 k0 (B2 P)) env H → AW Tryd.prog T0 code env H (mkQ (ret P) (fun _ _ _ => False) (ret P)) :=
  (r_seq (rB T0_ok (q2 P)) (r_seq (rB T0_ok (q1 P)) r_ret))
theorem ac (P : PT) (x0 x1 : Int) (H : AHeap) (h : B2 P x0 x1 H) : AC Tryd.prog T0 42 [(Value.int .u64 x0), (Value.int .i64 x1)] H P :=
  r_fn T0_ok (c := code) (n := 10) Tryd.func42 body (by kernel_rfl) (main P) (En_mk (x0, x1, ()) (by kernel_rfl) ⟨by kernel_rfl, by kernel_rfl, trivial⟩ h)

end F42
-- loop.example/g01329/spec.l04Best
namespace F43
noncomputable def ret (P : PT) : EP := retE T0 43 Tryd.f43 P
abbrev k0 : Sk := [(5,.v),(6,.v),(7,.i .i64)]
noncomputable def o1 := ob Tryd.f43 [.r,.r,.r,.l]
def B1 (P : PT) (x5 x6 : Value) (x7 : Int) (H : AHeap) : Prop :=
  lenK x5 (fun n1 => P (Value.tuple ⟨[x6, (Value.int .i64 x7), (Value.bool (decide (((n1 : Int) : Int) > 0)))]⟩) H)
theorem q1 (P : PT) : QB Tryd.prog T0 43 o1 (ret P) k0 (B1 P) := fun _ _ _ _ _  => by kernel_rfl
abbrev k1 : Sk := [(1,.x),(5,.v),(6,.v),(7,.i .i64),(8,.i .i64)]
noncomputable def o3 := ob Tryd.f43 [.r,.r,.l,.r,.l,.l,.r,.r]
def B3 (P : PT) (N2 : NTy k1 Pr) (x1 : Nat) (x5 x6 : Value) (x7 x8 : Int) (H : AHeap) : Prop :=
  N2 x1 x5 x6 x7 (IntKind.i64.wrap (x8 + 1)) H
theorem q3 (P : PT) (N2 : NTy k1 Pr) : QB Tryd.prog T0 43 o3 (En 43 k1 N2) k1 (B3 P N2) := fun _ _ _ _ _ _ _  => by kernel_rfl
abbrev k2 : Sk := [(1,.x),(5,.v),(6,.v),(8,.i .i64),(9,.i .i64)]
noncomputable def o4 := ob Tryd.f43 [.r,.r,.l,.r,.l,.l,.r,.l,.l,.r,.r,.l,.r]
def B4 (P : PT) (N2 : NTy k1 Pr) (x1 : Nat) (x5 x6 : Value) (x8 x9 : Int) (H : AHeap) : Prop :=
  B3 P N2 x1 x5 x6 x9 x8 H
theorem q4 (P : PT) (N2 : NTy k1 Pr) : QB Tryd.prog T0 43 o4 (En 43 k1 (B3 P N2)) k2 (B4 P N2) := fun _ _ _ _ _ _ _  => by kernel_rfl
abbrev k3 : Sk := [(1,.x),(5,.v),(8,.i .i64),(9,.i .i64)]
noncomputable def o5 := ob Tryd.f43 [.r,.r,.l,.r,.l,.l,.r,.l,.l,.r,.r,.l,.l]
def B5 (P : PT) (N2 : NTy k1 Pr) (x1 : Nat) (x5 : Value) (x8 x9 : Int) (H : AHeap) : Prop :=
  idxK x5 x8 1 (fun b1 o2 => ld1 H b1 o2 (fun v3 => B4 P N2 x1 x5 v3 x8 x9 H))
theorem q5 (P : PT) (N2 : NTy k1 Pr) : QB Tryd.prog T0 43 o5 (En 43 k2 (B4 P N2)) k3 (B5 P N2) := fun _ _ _ _ _ _  => by kernel_rfl
abbrev k4 : Sk := [(1,.x),(5,.v),(6,.v),(7,.i .i64),(8,.i .i64),(9,.i .i64)]
noncomputable def o6 := ob Tryd.f43 [.r,.r,.l,.r,.l,.l,.r,.l,.l,.r,.l]
def B6 (P : PT) (N2 : NTy k1 Pr) (x1 : Nat) (x5 x6 : Value) (x7 x8 x9 : Int) (H : AHeap) : Prop :=
  pif (decide ((x7 : Int) < 0)) (B5 P N2 x1 x5 x8 x9 H) (pif (decide ((x9 : Int) < x7)) (B5 P N2 x1 x5 x8 x9 H) (B3 P N2 x1 x5 x6 x7 x8 H))
theorem q6 (P : PT) (N2 : NTy k1 Pr) : QB Tryd.prog T0 43 o6 (cnd 32 (En 43 k3 (B5 P N2)) (En 43 k1 (B3 P N2))) k4 (B6 P N2) := fun _ _ _ _ _ _ _ _  => by kernel_rfl
noncomputable def o7 := ob Tryd.f43 [.r,.r,.l,.r,.l,.l,.r,.l,.l,.l]
def B7 (P : PT) (N2 : NTy k1 Pr) (x1 : Nat) (x5 x6 : Value) (x7 x8 : Int) (H : AHeap) : Prop :=
  ldI .i64 H x1 0 (fun v1 => ld1 H x1 1 (fun v2 => idxK x5 x8 1 (fun b3 o4 => ld1 H b3 o4 (fun v5 => AC Tryd.prog T0 60 [(Value.agg ⟨[(Value.int .i64 v1), v2]⟩), v5] H (fun v6 H7 => AC Tryd.prog T0 59 [v6] H7 (fun v9 H10 => asI .i64 v9 (fun v11 => B6 P N2 x1 x5 x6 x7 x8 v11 H10)))))))
theorem q7 (P : PT) (N2 : NTy k1 Pr) : QD Tryd.prog T0 43 o7 [(0, false), (1, false), (2, false), (3, false), (4, false), (5, false), (6, false), (7, false)] (En 43 k4 (B6 P N2)) k1 (B7 P N2) := fun _ _ _ _ _ _ _  => by kernel_rfl
noncomputable def o8 := ob Tryd.f43 [.r,.r,.l,.r,.l,.l,.l,.l]
def B8 (P : PT) (N2 : NTy k1 Pr) (x1 : Nat) (x5 x6 : Value) (x7 x8 : Int) (H : AHeap) : Prop :=
  lenK x5 (fun n1 => pif (decide ((x8 : Int) < (n1 : Int))) (B7 P N2 x1 x5 x6 x7 x8 H) (B1 P x5 x6 x7 H))
theorem q8 (P : PT) (N2 : NTy k1 Pr) : QB Tryd.prog T0 43 o8 (cnd 16 (En 43 k1 (B7 P N2)) (En 43 k0 (B1 P))) k1 (B8 P N2) := fun _ _ _ _ _ _ _  => by kernel_rfl
def L2 (P : PT) (x1 : Nat) (x5 x6 : Value) (x7 x8 : Int) (H : AHeap) : Prop :=
  ∃ (I : NTy k1 Pr) (μ : NTy k1 (AHeap → Nat)), I x1 x5 x6 x7 x8 H ∧ ∀ y1 y5 y6 y7 y8 G, I y1 y5 y6 y7 y8 G → B8 P (fun z1 z5 z6 z7 z8 G' => I z1 z5 z6 z7 z8 G' ∧ μ z1 z5 z6 z7 z8 G' < μ y1 y5 y6 y7 y8 G) y1 y5 y6 y7 y8 G
theorem l2 (P : PT) : LQ k1 (L2 P) (B8 P) := fun ⟨_,_,_,_,_,_⟩ _ ⟨I, μ, h0, hI⟩ => ⟨apT _ I, apT _ μ, h0, fun ⟨_,_,_,_,_,_⟩ _ h => hI _ _ _ _ _ _  h⟩
abbrev k5 : Sk := [(1,.x),(5,.v),(6,.v),(7,.i .i64)]
noncomputable def o9 := ob Tryd.f43 [.r,.r,.l,.l]
def B9 (P : PT) (x1 : Nat) (x5 x6 : Value) (x7 : Int) (H : AHeap) : Prop :=
  L2 P x1 x5 x6 x7 0 H
theorem q9 (P : PT) : QB Tryd.prog T0 43 o9 (En 43 k1 (L2 P)) k5 (B9 P) := fun _ _ _ _ _ _  => by kernel_rfl
abbrev k6 : Sk := [(1,.x)]
noncomputable def o10 := ob Tryd.f43 [.r,.l]
def B10 (P : PT) (x1 : Nat) (H : AHeap) : Prop :=
  ldI .i64 H x1 0 (fun v1 => ld1 H x1 1 (fun v2 => AC Tryd.prog T0 27 [(Value.agg ⟨[(Value.int .i64 v1), v2]⟩)] H (fun v3 H4 => newK H4 [] 2 (fun b6 H7 => B9 P x1 v3 (Value.slice (some ⟨b6, 0, none⟩) 0 (0 + 1)) (-1) H7))))
theorem q10 (P : PT) : QB Tryd.prog T0 43 o10 (En 43 k5 (B9 P)) k6 (B10 P) := fun _ _ _  => by kernel_rfl
abbrev k7 : Sk := [(0,.g [.i,.v])]
noncomputable def o11 := ob Tryd.f43 [.l]
def B11 (P : PT) (x0a : Int) (x0b : Value) (H : AHeap) : Prop :=
  newK H [(Value.int .i64 x0a), x0b] 31 (fun b1 H2 => B10 P b1 H2)
theorem q11 (P : PT) : QB Tryd.prog T0 43 o11 (En 43 k6 (B10 P)) k7 (B11 P) := fun _ _ _ _  => by kernel_rfl
noncomputable def code : Code := (.seq (.region 0 ⟨o11⟩ false) (.seq (.region 1 ⟨o10⟩ false) (.seq (.seq (.region 2 ⟨o9⟩ false) (.block 0 (.loop (.seq (.seq (.region 3 ⟨o8⟩ false) (.cond (.tmp 16) .skip (.exit 0))) (.seq (.block 1 (.seq (.region 5 ⟨o7⟩ true) (.seq (.region 6 ⟨o6⟩ false) (.cond (.tmp 32) (.seq (.region 7 ⟨o5⟩ false) (.region 8 ⟨o4⟩ false)) .skip)))) (.region 4 ⟨o3⟩ false)))))) (.seq (.region 9 ⟨o1⟩ false) .ret))))
theorem body : Tryd.f43.body = some code := by kernel_rfl
theorem main (P : PT) : ∀ env H, (En 43 k7 (B11 P)) env H → AW Tryd.prog T0 code env H (mkQ (ret P) (fun _ _ _ => False) (ret P)) :=
  (r_seq (rB T0_ok (q11 P)) (r_seq (rB T0_ok (q10 P)) (r_seq (r_seq (rB T0_ok (q9 P)) (r_block (rL (l2 P) (fun N2 => (r_seq (r_seq (rB T0_ok (q8 P N2)) (r_cond rfl r_skip (r_exit (fun _ _ h => h)))) (r_seq (r_block (r_seq (rD T0_ok mixed [(0, false), (1, false), (2, false), (3, false), (4, false), (5, false), (6, false), (7, false)] (by kernel_rfl) (q7 P N2)) (r_seq (rB T0_ok (q6 P N2)) (r_cond rfl (r_seq (rB T0_ok (q5 P N2)) (rB T0_ok (q4 P N2))) r_skip)))) (rB T0_ok (q3 P N2)))))))) (r_seq (rB T0_ok (q1 P)) r_ret))))
theorem ac (P : PT) (x0a : Int) (x0b : Value) (H : AHeap) (h : B11 P x0a x0b H) : AC Tryd.prog T0 43 [(Value.agg ⟨[(Value.int .i64 x0a), x0b]⟩)] H P :=
  r_fn T0_ok (c := code) (n := 43) Tryd.func43 body (by kernel_rfl) (main P) (En_mk (x0a, x0b, ()) (by kernel_rfl) ⟨by kernel_rfl, trivial⟩ h)

end F43
-- (loop.example/g01329/impl.Graph).best
namespace F44
noncomputable def ret (P : PT) : EP := retE T0 14 Tryd.f44 P
abbrev k0 : Sk := [(5,.x),(6,.x)]
noncomputable def o1 := ob Tryd.f44 [.r,.r,.r,.r,.l]
def B1 (P : PT) (x5 x6 : Nat) (H : AHeap) : Prop :=
  ldI .u64 H x5 0 (fun v1 => ldI .i64 H x6 0 (fun v2 => ldI .i64 H x6 0 (fun v3 => P (Value.tuple ⟨[(Value.int .u64 v1), (Value.int .i64 v2), (Value.bool ((v3 : Int) != (-1)))]⟩) H)))
theorem q1 (P : PT) : QD Tryd.prog T0 14 o1 [(0, false), (1, false), (2, false), (3, false), (4, false), (5, false), (6, false)] (ret P) k0 (B1 P) := fun _ _ _ _  => by kernel_rfl
abbrev k1 : Sk := [(1,.x),(5,.x),(6,.x)]
noncomputable def o2 := ob Tryd.f44 [.r,.r,.r,.l]
def B2 (P : PT) (x1 x5 x6 : Nat) (H : AHeap) : Prop :=
  ldI .i64 H x1 0 (fun v1 => ld1 H x1 1 (fun v2 => AC Tryd.prog T0 32 [(Value.agg ⟨[(Value.int .i64 v1), v2]⟩), (Value.func (.func 61) ⟨[]⟩ ⟨[(Value.pointer (some ⟨x1, 0, none⟩)), (Value.pointer (some ⟨x6, 0, none⟩)), (Value.pointer (some ⟨x5, 0, none⟩))]⟩)] H (fun v3 H4 => asB v3 (fun v5 => B1 P x5 x6 H4))))
theorem q2 (P : PT) : QB Tryd.prog T0 14 o2 (En 14 k0 (B1 P)) k1 (B2 P) := fun _ _ _ _ _  => by kernel_rfl
abbrev k2 : Sk := [(1,.x),(5,.x)]
noncomputable def o3 := ob Tryd.f44 [.r,.r,.l]
def B3 (P : PT) (x1 x5 : Nat) (H : AHeap) : Prop :=
  newK H [(Value.int .i64 0)] 2 (fun b1 H2 => stK H2 b1 0 [(Value.int .i64 (-1))] (fun H3 => B2 P x1 x5 b1 H3))
theorem q3 (P : PT) : QB Tryd.prog T0 14 o3 (En 14 k1 (B2 P)) k2 (B3 P) := fun _ _ _ _  => by kernel_rfl
abbrev k3 : Sk := [(1,.x)]
noncomputable def o4 := ob Tryd.f44 [.r,.l]
def B4 (P : PT) (x1 : Nat) (H : AHeap) : Prop :=
  newK H [(Value.int .u64 0)] 52 (fun b1 H2 => B3 P x1 b1 H2)
theorem q4 (P : PT) : QB Tryd.prog T0 14 o4 (En 14 k2 (B3 P)) k3 (B4 P) := fun _ _ _  => by kernel_rfl
abbrev k4 : Sk := [(0,.g [.i,.v])]
noncomputable def o5 := ob Tryd.f44 [.l]
def B5 (P : PT) (x0a : Int) (x0b : Value) (H : AHeap) : Prop :=
  newK H [(Value.int .i64 x0a), x0b] 31 (fun b1 H2 => B4 P b1 H2)
theorem q5 (P : PT) : QB Tryd.prog T0 14 o5 (En 14 k3 (B4 P)) k4 (B5 P) := fun _ _ _ _  => by kernel_rfl
noncomputable def code : Code := (.seq (.region 0 ⟨o5⟩ false) (.seq (.region 1 ⟨o4⟩ false) (.seq (.region 2 ⟨o3⟩ false) (.seq (.region 3 ⟨o2⟩ false) (.seq (.region 4 ⟨o1⟩ true) .ret)))))
theorem body : Tryd.f44.body = some code := by kernel_rfl
theorem main (P : PT) : ∀ env H, (En 14 k4 (B5 P)) env H → AW Tryd.prog T0 code env H (mkQ (ret P) (fun _ _ _ => False) (ret P)) :=
  (r_seq (rB T0_ok (q5 P)) (r_seq (rB T0_ok (q4 P)) (r_seq (rB T0_ok (q3 P)) (r_seq (rB T0_ok (q2 P)) (r_seq (rD T0_ok mixed [(0, false), (1, false), (2, false), (3, false), (4, false), (5, false), (6, false)] (by kernel_rfl) (q1 P)) r_ret)))))
theorem ac (P : PT) (x0a : Int) (x0b : Value) (H : AHeap) (h : B5 P x0a x0b H) : AC Tryd.prog T0 44 [(Value.agg ⟨[(Value.int .i64 x0a), x0b]⟩)] H P :=
  r_fn T0_ok (c := code) (n := 14) Tryd.func44 body (by kernel_rfl) (main P) (En_mk (x0a, x0b, ()) (by kernel_rfl) ⟨by kernel_rfl, trivial⟩ h)

end F44
-- loop.example/g01329/spec.l01Ends
namespace F45
noncomputable def ret (P : PT) : EP := retE T0 61 Tryd.f45 P
abbrev k0 : Sk := []
noncomputable def o1 := ob Tryd.f45 [.r,.r,.r,.l]
def B1 (P : PT) (H : AHeap) : Prop :=
  P (Value.int .i64 0) H
theorem q1 (P : PT) : QB Tryd.prog T0 61 o1 (ret P) k0 (B1 P) := fun _ _  => by kernel_rfl
abbrev k1 : Sk := [(0,.i .i64),(1,.v),(5,.i .i64)]
noncomputable def o3 := ob Tryd.f45 [.r,.r,.l,.r,.l,.l,.r,.r]
def B3 (P : PT) (N2 : NTy k1 Pr) (x0 : Int) (x1 : Value) (x5 : Int) (H : AHeap) : Prop :=
  N2 x0 x1 (IntKind.i64.wrap (x5 + 1)) H
theorem q3 (P : PT) (N2 : NTy k1 Pr) : QB Tryd.prog T0 61 o3 (En 61 k1 N2) k1 (B3 P N2) := fun _ _ _ _ _  => by kernel_rfl
noncomputable def o4 := ob Tryd.f45 [.r,.r,.l,.r,.l,.l,.r,.l,.l,.r,.l,.l]
def B4 (P : PT) (N2 : NTy k1 Pr) (H : AHeap) : Prop :=
  P (Value.int .i64 2) H
theorem q4 (P : PT) (N2 : NTy k1 Pr) : QB Tryd.prog T0 61 o4 (ret P) k0 (B4 P N2) := fun _ _  => by kernel_rfl
noncomputable def o5 := ob Tryd.f45 [.r,.r,.l,.r,.l,.l,.r,.l,.l,.l]
def B5 (P : PT) (N2 : NTy k1 Pr) (x0 : Int) (x1 : Value) (x5 : Int) (H : AHeap) : Prop :=
  idxK x1 x5 2 (fun b1 o2 => ldI .i64 H b1 o2 (fun v3 => AC Tryd.prog T0 63 [(Value.int .i64 v3), (Value.int .i64 0), (Value.int .i64 (IntKind.i64.wrap (x0 - 1)))] H (fun v4 H5 => asB v4 (fun v6 => pif (!v6) (B4 P N2 H5) (idxK x1 x5 2 (fun b7 o8 => ldI .i64 H5 b7 (o8 + 1) (fun v9 => AC Tryd.prog T0 63 [(Value.int .i64 v9), (Value.int .i64 0), (Value.int .i64 (IntKind.i64.wrap (x0 - 1)))] H5 (fun v10 H11 => asB v10 (fun v12 => pif (!v12) (B4 P N2 H11) (idxK x1 x5 2 (fun b13 o14 => ldI .i64 H11 b13 o14 (fun v15 => idxK x1 x5 2 (fun b16 o17 => ldI .i64 H11 b16 (o17 + 1) (fun v18 => pif ((v15 : Int) == v18) (B4 P N2 H11) (B3 P N2 x0 x1 x5 H11)))))))))))))))
theorem q5 (P : PT) (N2 : NTy k1 Pr) : QD Tryd.prog T0 61 o5 [(0, false), (1, false), (2, false), (3, false), (4, false), (5, false), (6, false), (7, false), (8, false), (9, false), (10, false), (11, false), (12, false), (13, false), (14, false), (15, false), (16, false), (17, false), (18, false), (19, false), (20, false), (21, false), (22, false), (23, false), (24, false), (25, false), (26, false), (27, false), (28, false), (29, false), (30, false), (31, false), (32, false)] (cnd 60 (En 61 k0 (B4 P N2)) (En 61 k1 (B3 P N2))) k1 (B5 P N2) := fun _ _ _ _ _  => by kernel_rfl
noncomputable def o6 := ob Tryd.f45 [.r,.r,.l,.r,.l,.l,.l,.l]
def B6 (P : PT) (N2 : NTy k1 Pr) (x0 : Int) (x1 : Value) (x5 : Int) (H : AHeap) : Prop :=
  lenK x1 (fun n1 => pif (decide ((x5 : Int) < (n1 : Int))) (B5 P N2 x0 x1 x5 H) (B1 P H))
theorem q6 (P : PT) (N2 : NTy k1 Pr) : QB Tryd.prog T0 61 o6 (cnd 25 (En 61 k1 (B5 P N2)) (En 61 k0 (B1 P))) k1 (B6 P N2) := fun _ _ _ _ _  => by kernel_rfl
def L2 (P : PT) (x0 : Int) (x1 : Value) (x5 : Int) (H : AHeap) : Prop :=
  ∃ (I : NTy k1 Pr) (μ : NTy k1 (AHeap → Nat)), I x0 x1 x5 H ∧ ∀ y0 y1 y5 G, I y0 y1 y5 G → B6 P (fun z0 z1 z5 G' => I z0 z1 z5 G' ∧ μ z0 z1 z5 G' < μ y0 y1 y5 G) y0 y1 y5 G
theorem l2 (P : PT) : LQ k1 (L2 P) (B6 P) := fun ⟨_,_,_,_⟩ _ ⟨I, μ, h0, hI⟩ => ⟨apT _ I, apT _ μ, h0, fun ⟨_,_,_,_⟩ _ h => hI _ _ _ _  h⟩
abbrev k2 : Sk := [(0,.i .i64),(1,.v)]
noncomputable def o7 := ob Tryd.f45 [.r,.r,.l,.l]
def B7 (P : PT) (x0 : Int) (x1 : Value) (H : AHeap) : Prop :=
  L2 P x0 x1 0 H
theorem q7 (P : PT) : QB Tryd.prog T0 61 o7 (En 61 k1 (L2 P)) k2 (B7 P) := fun _ _ _ _  => by kernel_rfl
noncomputable def o8 := ob Tryd.f45 [.r,.l,.r,.l,.l]
def B8 (P : PT) (H : AHeap) : Prop :=
  P (Value.int .i64 2) H
theorem q8 (P : PT) : QB Tryd.prog T0 61 o8 (ret P) k0 (B8 P) := fun _ _  => by kernel_rfl
noncomputable def o9 := ob Tryd.f45 [.r,.l,.l]
def B9 (P : PT) (x0 : Int) (x1 : Value) (H : AHeap) : Prop :=
  AC Tryd.prog T0 63 [(Value.int .i64 x0), (Value.int .i64 2), (Value.int .i64 20)] H (fun v1 H2 => asB v1 (fun v3 => pif (!v3) (B8 P H2) (pif ((Int.tmod x0 2 : Int) != 0) (B8 P H2) (lenK x1 (fun n4 => pif (((n4 : Int) : Int) != (IntKind.i64.wrap (Int.tdiv (IntKind.i64.wrap (3 * x0)) 2))) (B8 P H2) (B7 P x0 x1 H2))))))
theorem q9 (P : PT) : QB Tryd.prog T0 61 o9 (cnd 21 (En 61 k0 (B8 P)) (En 61 k2 (B7 P))) k2 (B9 P) := fun _ _ _ _  => by kernel_rfl
noncomputable def o10 := ob Tryd.f45 [.l]
def B10 (P : PT) (x0 : Int) (x1 : Value) (H : AHeap) : Prop :=
  B9 P x0 x1 H
theorem q10 (P : PT) : QB Tryd.prog T0 61 o10 (En 61 k2 (B9 P)) k2 (B10 P) := fun _ _ _ _  => by kernel_rfl
noncomputable def code : Code := (.seq (.region 0 ⟨o10⟩ false) (.seq (.seq (.region 1 ⟨o9⟩ false) (.cond (.tmp 21) (.seq (.region 2 ⟨o8⟩ false) .ret) .skip)) (.seq (.seq (.region 3 ⟨o7⟩ false) (.block 0 (.loop (.seq (.seq (.region 4 ⟨o6⟩ false) (.cond (.tmp 25) .skip (.exit 0))) (.seq (.block 1 (.seq (.region 6 ⟨o5⟩ true) (.cond (.tmp 60) (.seq (.region 7 ⟨o4⟩ false) .ret) .skip))) (.region 5 ⟨o3⟩ false)))))) (.seq (.region 8 ⟨o1⟩ false) .ret))))
theorem body : Tryd.f45.body = some code := by kernel_rfl
theorem main (P : PT) : ∀ env H, (En 61 k2 (B10 P)) env H → AW Tryd.prog T0 code env H (mkQ (ret P) (fun _ _ _ => False) (ret P)) :=
  (r_seq (rB T0_ok (q10 P)) (r_seq (r_seq (rB T0_ok (q9 P)) (r_cond rfl (r_seq (rB T0_ok (q8 P)) r_ret) r_skip)) (r_seq (r_seq (rB T0_ok (q7 P)) (r_block (rL (l2 P) (fun N2 => (r_seq (r_seq (rB T0_ok (q6 P N2)) (r_cond rfl r_skip (r_exit (fun _ _ h => h)))) (r_seq (r_block (r_seq (rD T0_ok mixed [(0, false), (1, false), (2, false), (3, false), (4, false), (5, false), (6, false), (7, false), (8, false), (9, false), (10, false), (11, false), (12, false), (13, false), (14, false), (15, false), (16, false), (17, false), (18, false), (19, false), (20, false), (21, false), (22, false), (23, false), (24, false), (25, false), (26, false), (27, false), (28, false), (29, false), (30, false), (31, false), (32, false)] (by kernel_rfl) (q5 P N2)) (r_cond rfl (r_seq (rB T0_ok (q4 P N2)) r_ret) r_skip))) (rB T0_ok (q3 P N2)))))))) (r_seq (rB T0_ok (q1 P)) r_ret))))
theorem ac (P : PT) (x0 : Int) (x1 : Value) (H : AHeap) (h : B10 P x0 x1 H) : AC Tryd.prog T0 45 [(Value.int .i64 x0), x1] H P :=
  r_fn T0_ok (c := code) (n := 61) Tryd.func45 body (by kernel_rfl) (main P) (En_mk (x0, x1, ()) (by kernel_rfl) ⟨by kernel_rfl, by kernel_rfl, trivial⟩ h)

end F45
-- loop.example/g01329/spec.l01Cubic
namespace F46
noncomputable def ret (P : PT) : EP := retE T0 46 Tryd.f46 P
abbrev k0 : Sk := []
noncomputable def o1 := ob Tryd.f46 [.r,.r,.r,.r,.l]
def B1 (P : PT) (H : AHeap) : Prop :=
  P (Value.bool true) H
theorem q1 (P : PT) : QB Tryd.prog T0 46 o1 (ret P) k0 (B1 P) := fun _ _  => by kernel_rfl
abbrev k1 : Sk := [(0,.i .i64),(5,.v),(7,.i .i64)]
noncomputable def o3 := ob Tryd.f46 [.r,.r,.r,.l,.r,.l,.l,.r,.r]
def B3 (P : PT) (N2 : NTy k1 Pr) (x0 : Int) (x5 : Value) (x7 : Int) (H : AHeap) : Prop :=
  N2 x0 x5 (IntKind.i64.wrap (x7 + 1)) H
theorem q3 (P : PT) (N2 : NTy k1 Pr) : QB Tryd.prog T0 46 o3 (En 46 k1 N2) k1 (B3 P N2) := fun _ _ _ _ _  => by kernel_rfl
noncomputable def o4 := ob Tryd.f46 [.r,.r,.r,.l,.r,.l,.l,.r,.l,.l,.r,.l,.l]
def B4 (P : PT) (N2 : NTy k1 Pr) (H : AHeap) : Prop :=
  P (Value.bool false) H
theorem q4 (P : PT) (N2 : NTy k1 Pr) : QB Tryd.prog T0 46 o4 (ret P) k0 (B4 P N2) := fun _ _  => by kernel_rfl
noncomputable def o5 := ob Tryd.f46 [.r,.r,.r,.l,.r,.l,.l,.r,.l,.l,.l]
def B5 (P : PT) (N2 : NTy k1 Pr) (x0 : Int) (x5 : Value) (x7 : Int) (H : AHeap) : Prop :=
  idxK x5 x7 1 (fun b1 o2 => ldI .i64 H b1 o2 (fun v3 => pif ((v3 : Int) != 3) (B4 P N2 H) (B3 P N2 x0 x5 x7 H)))
theorem q5 (P : PT) (N2 : NTy k1 Pr) : QB Tryd.prog T0 46 o5 (cnd 45 (En 46 k0 (B4 P N2)) (En 46 k1 (B3 P N2))) k1 (B5 P N2) := fun _ _ _ _ _  => by kernel_rfl
noncomputable def o6 := ob Tryd.f46 [.r,.r,.r,.l,.r,.l,.l,.l,.l]
def B6 (P : PT) (N2 : NTy k1 Pr) (x0 : Int) (x5 : Value) (x7 : Int) (H : AHeap) : Prop :=
  pif (decide ((x7 : Int) < x0)) (B5 P N2 x0 x5 x7 H) (B1 P H)
theorem q6 (P : PT) (N2 : NTy k1 Pr) : QB Tryd.prog T0 46 o6 (cnd 38 (En 46 k1 (B5 P N2)) (En 46 k0 (B1 P))) k1 (B6 P N2) := fun _ _ _ _ _  => by kernel_rfl
def L2 (P : PT) (x0 : Int) (x5 : Value) (x7 : Int) (H : AHeap) : Prop :=
  ∃ (I : NTy k1 Pr) (μ : NTy k1 (AHeap → Nat)), I x0 x5 x7 H ∧ ∀ y0 y5 y7 G, I y0 y5 y7 G → B6 P (fun z0 z5 z7 G' => I z0 z5 z7 G' ∧ μ z0 z5 z7 G' < μ y0 y5 y7 G) y0 y5 y7 G
theorem l2 (P : PT) : LQ k1 (L2 P) (B6 P) := fun ⟨_,_,_,_⟩ _ ⟨I, μ, h0, hI⟩ => ⟨apT _ I, apT _ μ, h0, fun ⟨_,_,_,_⟩ _ h => hI _ _ _ _  h⟩
abbrev k2 : Sk := [(0,.i .i64),(5,.v)]
noncomputable def o7 := ob Tryd.f46 [.r,.r,.r,.l,.l]
def B7 (P : PT) (x0 : Int) (x5 : Value) (H : AHeap) : Prop :=
  L2 P x0 x5 0 H
theorem q7 (P : PT) : QB Tryd.prog T0 46 o7 (En 46 k1 (L2 P)) k2 (B7 P) := fun _ _ _ _  => by kernel_rfl
abbrev k3 : Sk := [(0,.i .i64),(1,.v),(5,.v),(6,.i .i64)]
noncomputable def o9 := ob Tryd.f46 [.r,.r,.l,.r,.l,.l,.r,.r]
def B9 (P : PT) (N8 : NTy k3 Pr) (x0 : Int) (x1 x5 : Value) (x6 : Int) (H : AHeap) : Prop :=
  N8 x0 x1 x5 (IntKind.i64.wrap (x6 + 1)) H
theorem q9 (P : PT) (N8 : NTy k3 Pr) : QB Tryd.prog T0 46 o9 (En 46 k3 N8) k3 (B9 P N8) := fun _ _ _ _ _ _  => by kernel_rfl
noncomputable def o10 := ob Tryd.f46 [.r,.r,.l,.r,.l,.l,.r,.l,.l,.r]
def B10 (P : PT) (N8 : NTy k3 Pr) (x0 : Int) (x1 x5 : Value) (x6 : Int) (H : AHeap) : Prop :=
  idxK x1 x6 2 (fun b1 o2 => ldI .i64 H b1 (o2 + 1) (fun v3 => idxK x5 v3 1 (fun b4 o5 => ldI .i64 H b4 o5 (fun v6 => idxK x5 v3 1 (fun b7 o8 => stK H b7 o8 [(Value.int .i64 (IntKind.i64.wrap (v6 + 1)))] (fun H9 => B9 P N8 x0 x1 x5 x6 H9))))))
theorem q10 (P : PT) (N8 : NTy k3 Pr) : QB Tryd.prog T0 46 o10 (En 46 k3 (B9 P N8)) k3 (B10 P N8) := fun _ _ _ _ _ _  => by kernel_rfl
noncomputable def o11 := ob Tryd.f46 [.r,.r,.l,.r,.l,.l,.r,.l,.l,.l]
def B11 (P : PT) (N8 : NTy k3 Pr) (x0 : Int) (x1 x5 : Value) (x6 : Int) (H : AHeap) : Prop :=
  idxK x1 x6 2 (fun b1 o2 => ldI .i64 H b1 o2 (fun v3 => idxK x5 v3 1 (fun b4 o5 => ldI .i64 H b4 o5 (fun v6 => idxK x5 v3 1 (fun b7 o8 => stK H b7 o8 [(Value.int .i64 (IntKind.i64.wrap (v6 + 1)))] (fun H9 => B10 P N8 x0 x1 x5 x6 H9))))))
theorem q11 (P : PT) (N8 : NTy k3 Pr) : QB Tryd.prog T0 46 o11 (En 46 k3 (B10 P N8)) k3 (B11 P N8) := fun _ _ _ _ _ _  => by kernel_rfl
noncomputable def o12 := ob Tryd.f46 [.r,.r,.l,.r,.l,.l,.l,.l]
def B12 (P : PT) (N8 : NTy k3 Pr) (x0 : Int) (x1 x5 : Value) (x6 : Int) (H : AHeap) : Prop :=
  lenK x1 (fun n1 => pif (decide ((x6 : Int) < (n1 : Int))) (B11 P N8 x0 x1 x5 x6 H) (B7 P x0 x5 H))
theorem q12 (P : PT) (N8 : NTy k3 Pr) : QB Tryd.prog T0 46 o12 (cnd 13 (En 46 k3 (B11 P N8)) (En 46 k2 (B7 P))) k3 (B12 P N8) := fun _ _ _ _ _ _  => by kernel_rfl
def L8 (P : PT) (x0 : Int) (x1 x5 : Value) (x6 : Int) (H : AHeap) : Prop :=
  ∃ (I : NTy k3 Pr) (μ : NTy k3 (AHeap → Nat)), I x0 x1 x5 x6 H ∧ ∀ y0 y1 y5 y6 G, I y0 y1 y5 y6 G → B12 P (fun z0 z1 z5 z6 G' => I z0 z1 z5 z6 G' ∧ μ z0 z1 z5 z6 G' < μ y0 y1 y5 y6 G) y0 y1 y5 y6 G
theorem l8 (P : PT) : LQ k3 (L8 P) (B12 P) := fun ⟨_,_,_,_,_⟩ _ ⟨I, μ, h0, hI⟩ => ⟨apT _ I, apT _ μ, h0, fun ⟨_,_,_,_,_⟩ _ h => hI _ _ _ _ _  h⟩
abbrev k4 : Sk := [(0,.i .i64),(1,.v),(5,.v)]
noncomputable def o13 := ob Tryd.f46 [.r,.r,.l,.l]
def B13 (P : PT) (x0 : Int) (x1 x5 : Value) (H : AHeap) : Prop :=
  L8 P x0 x1 x5 0 H
theorem q13 (P : PT) : QB Tryd.prog T0 46 o13 (En 46 k3 (L8 P)) k4 (B13 P) := fun _ _ _ _ _  => by kernel_rfl
abbrev k5 : Sk := [(0,.i .i64),(1,.v)]
noncomputable def o14 := ob Tryd.f46 [.r,.l]
def B14 (P : PT) (x0 : Int) (x1 : Value) (H : AHeap) : Prop :=
  mkR H 8 2 [(Value.int .i64 0)] x0 x0 (fun v2 H1 => B13 P x0 x1 v2 H1)
theorem q14 (P : PT) : QB Tryd.prog T0 46 o14 (En 46 k4 (B13 P)) k5 (B14 P) := fun _ _ _ _  => by kernel_rfl
noncomputable def o15 := ob Tryd.f46 [.l]
def B15 (P : PT) (x0 : Int) (x1 : Value) (H : AHeap) : Prop :=
  B14 P x0 x1 H
theorem q15 (P : PT) : QB Tryd.prog T0 46 o15 (En 46 k5 (B14 P)) k5 (B15 P) := fun _ _ _ _  => by kernel_rfl
noncomputable def code : Code := (.seq (.region 0 ⟨o15⟩ false) (.seq (.region 1 ⟨o14⟩ false) (.seq (.seq (.region 2 ⟨o13⟩ false) (.block 0 (.loop (.seq (.seq (.region 3 ⟨o12⟩ false) (.cond (.tmp 13) .skip (.exit 0))) (.seq (.block 1 (.seq (.region 5 ⟨o11⟩ false) (.region 6 ⟨o10⟩ false))) (.region 4 ⟨o9⟩ false)))))) (.seq (.seq (.region 7 ⟨o7⟩ false) (.block 2 (.loop (.seq (.seq (.region 8 ⟨o6⟩ false) (.cond (.tmp 38) .skip (.exit 2))) (.seq (.block 3 (.seq (.region 10 ⟨o5⟩ false) (.cond (.tmp 45) (.seq (.region 11 ⟨o4⟩ false) .ret) .skip))) (.region 9 ⟨o3⟩ false)))))) (.seq (.region 12 ⟨o1⟩ false) .ret)))))
theorem body : Tryd.f46.body = some code := by kernel_rfl
theorem main (P : PT) : ∀ env H, (En 46 k5 (B15 P)) env H → AW Tryd.prog T0 code env H (mkQ (ret P) (fun _ _ _ => False) (ret P)) :=
  (r_seq (rB T0_ok (q15 P)) (r_seq (rB T0_ok (q14 P)) (r_seq (r_seq (rB T0_ok (q13 P)) (r_block (rL (l8 P) (fun N8 => (r_seq (r_seq (rB T0_ok (q12 P N8)) (r_cond rfl r_skip (r_exit (fun _ _ h => h)))) (r_seq (r_block (r_seq (rB T0_ok (q11 P N8)) (rB T0_ok (q10 P N8)))) (rB T0_ok (q9 P N8)))))))) (r_seq (r_seq (rB T0_ok (q7 P)) (r_block (rL (l2 P) (fun N2 => (r_seq (r_seq (rB T0_ok (q6 P N2)) (r_cond rfl r_skip (r_exit (fun _ _ h => h)))) (r_seq (r_block (r_seq (rB T0_ok (q5 P N2)) (r_cond rfl (r_seq (rB T0_ok (q4 P N2)) r_ret) r_skip))) (rB T0_ok (q3 P N2)))))))) (r_seq (rB T0_ok (q1 P)) r_ret)))))
theorem ac (P : PT) (x0 : Int) (x1 : Value) (H : AHeap) (h : B15 P x0 x1 H) : AC Tryd.prog T0 46 [(Value.int .i64 x0), x1] H P :=
  r_fn T0_ok (c := code) (n := 46) Tryd.func46 body (by kernel_rfl) (main P) (En_mk (x0, x1, ()) (by kernel_rfl) ⟨by kernel_rfl, by kernel_rfl, trivial⟩ h)

end F46
-- loop.example/g01329/spec.l01Before
namespace F47
noncomputable def ret (P : PT) : EP := retE T0 24 Tryd.f47 P
abbrev k0 : Sk := [(2,.x),(3,.x)]
noncomputable def o1 := ob Tryd.f47 [.r,.l]
def B1 (P : PT) (x2 x3 : Nat) (H : AHeap) : Prop :=
  ldI .i64 H x2 0 (fun v1 => ldI .i64 H x3 0 (fun v2 => pif (decide ((v1 : Int) < v2)) (P (Value.bool true) H) (ldI .i64 H x2 0 (fun v3 => ldI .i64 H x3 0 (fun v4 => pif ((v3 : Int) == v4) (ldI .i64 H x2 1 (fun v5 => ldI .i64 H x3 1 (fun v6 => P (Value.bool (decide ((v5 : Int) < v6))) H))) (P (Value.bool false) H))))))
theorem q1 (P : PT) : QB Tryd.prog T0 24 o1 (ret P) k0 (B1 P) := fun _ _ _ _  => by kernel_rfl
abbrev k1 : Sk := [(0,.g [.i,.i]),(1,.g [.i,.i])]
noncomputable def o2 := ob Tryd.f47 [.l]
def B2 (P : PT) (x0a x0b x1a x1b : Int) (H : AHeap) : Prop :=
  newK H [(Value.int .i64 x0a), (Value.int .i64 x0b)] 74 (fun b1 H2 => newK H2 [(Value.int .i64 x1a), (Value.int .i64 x1b)] 74 (fun b3 H4 => B1 P b1 b3 H4))
theorem q2 (P : PT) : QB Tryd.prog T0 24 o2 (En 24 k0 (B1 P)) k1 (B2 P) := fun _ _ _ _ _ _  => by kernel_rfl
noncomputable def code : Code := (.seq (.region 0 ⟨o2⟩ false) (.seq (.region 1 ⟨o1⟩ false) .ret))
theorem body : Tryd.f47.body = some code := by kernel_rfl
theorem main (P : PT) : ∀ env H, (En 24 k1 (B2 P)) env H → AW Tryd.prog T0 code env H (mkQ (ret P) (fun _ _ _ => False) (ret P)) :=
  (r_seq (rB T0_ok (q2 P)) (r_seq (rB T0_ok (q1 P)) r_ret))
theorem ac (P : PT) (x0a x0b x1a x1b : Int) (H : AHeap) (h : B2 P x0a x0b x1a x1b H) : AC Tryd.prog T0 47 [(Value.agg ⟨[(Value.int .i64 x0a), (Value.int .i64 x0b)]⟩), (Value.agg ⟨[(Value.int .i64 x1a), (Value.int .i64 x1b)]⟩)] H P :=
  r_fn T0_ok (c := code) (n := 24) Tryd.func47 body (by kernel_rfl) (main P) (En_mk (x0a, x0b, x1a, x1b, ()) (by kernel_rfl) ⟨by kernel_rfl, by kernel_rfl, trivial⟩ h)

end F47
-- loop.example/g01329/spec.l04List
namespace F48
noncomputable def ret (P : PT) : EP := retE T0 77 Tryd.f48 P
abbrev k0 : Sk := [(3,.v)]
noncomputable def o1 := ob Tryd.f48 [.r,.r,.r,.r,.r,.r,.l]
def B1 (P : PT) (x3 : Value) (H : AHeap) : Prop :=
  P x3 H
theorem q1 (P : PT) : QB Tryd.prog T0 77 o1 (ret P) k0 (B1 P) := fun _ _ _  => by kernel_rfl
abbrev k1 : Sk := [(1,.v),(2,.i .i64),(3,.v),(4,.x),(9,.i .i64),(10,.v),(11,.i .i64)]
noncomputable def o3 := ob Tryd.f48 [.r,.r,.r,.r,.r,.l,.r,.l,.l,.r,.r]
def B3 (P : PT) (N2 : NTy k1 Pr) (x1 : Value) (x2 : Int) (x3 : Value) (x4 : Nat) (x9 : Int) (x10 : Value) (x11 : Int) (H : AHeap) : Prop :=
  N2 x1 x2 x3 x4 x9 x10 (IntKind.i64.wrap (x11 + 1)) H
theorem q3 (P : PT) (N2 : NTy k1 Pr) : QB Tryd.prog T0 77 o3 (En 77 k1 N2) k1 (B3 P N2) := fun _ _ _ _ _ _ _ _ _  => by kernel_rfl
abbrev k2 : Sk := [(1,.v),(2,.i .i64),(3,.v),(4,.x),(9,.i .i64),(10,.v),(11,.i .i64),(12,.i .i64)]
noncomputable def o4 := ob Tryd.f48 [.r,.r,.r,.r,.r,.l,.r,.l,.l,.r,.l,.l,.r,.r,.l]
def B4 (P : PT) (N2 : NTy k1 Pr) (x1 : Value) (x2 : Int) (x3 : Value) (x4 : Nat) (x9 : Int) (x10 : Value) (x11 x12 : Int) (H : AHeap) : Prop :=
  ldI .i64 H x4 0 (fun v1 => ld1 H x4 1 (fun v2 => idxK x10 x11 1 (fun b3 o4 => ldI .i64 H b3 o4 (fun v5 => ((0 : Int) ≤ (IntKind.u64.wrap x9)) ∧ (((0 : Int) ≤ (IntKind.u64.wrap x12)) ∧ ((AC Tryd.prog T0 64 [x1] H (fun v6 H7 => (ldI .i64 H7 x4 0 (fun v9 => ld1 H7 x4 1 (fun v10 => ((Value.agg ⟨[(Value.int .i64 v9), v10]⟩) = (Value.agg ⟨[(Value.int .i64 v1), v2]⟩)) ∧ (H7 = H7)))) ∧ ((ldI .i64 H7 b3 o4 (fun v11 => ((Value.int .i64 v11) = (Value.int .i64 v5)) ∧ (H7 = H7))) ∧ (newK H7 [(Value.int .i64 v5)] 2 (fun b12 H13 => apK T0 2 H13 v6 (Value.slice (some ⟨b12, 0, none⟩) 1 (1 + 1)) (fun v14 H15 => (ldI .i64 H15 x4 0 (fun v16 => ld1 H15 x4 1 (fun v17 => ((Value.agg ⟨[(Value.int .i64 v16), v17]⟩) = (Value.agg ⟨[(Value.int .i64 v1), v2]⟩)) ∧ (H15 = H15)))) ∧ (AC Tryd.prog T0 48 [(Value.agg ⟨[(Value.int .i64 v1), v2]⟩), v14, (Value.int .i64 (IntKind.i64.wrap (BitVec.ofInt 64 (IntKind.i64.wrap (BitVec.ofInt 64 x2 ||| BitVec.ofInt 64 (IntKind.i64.wrap (1 * 2 ^ (min (Int.toNat (IntKind.u64.wrap x9)) 64)))).toNat) ||| BitVec.ofInt 64 (IntKind.i64.wrap (1 * 2 ^ (min (Int.toNat (IntKind.u64.wrap x12)) 64)))).toNat)), x3] H15 (fun v18 H19 => B3 P N2 x1 x2 v18 x4 x9 x10 x11 H19)))))))) ∧ (newK H [(Value.int .i64 v5)] 2 (fun b21 H22 => AC Tryd.prog T0 64 [x1] H22 (fun v23 H24 => (ldI .i64 H24 x4 0 (fun v26 => ld1 H24 x4 1 (fun v27 => ((Value.agg ⟨[(Value.int .i64 v26), v27]⟩) = (Value.agg ⟨[(Value.int .i64 v1), v2]⟩)) ∧ (H24 = H24)))) ∧ ((ldI .i64 H24 b3 o4 (fun v28 => ((Value.int .i64 v28) = (Value.int .i64 v5)) ∧ (H24 = H24))) ∧ (apK T0 2 H24 v23 (Value.slice (some ⟨b21, 0, none⟩) 1 (1 + 1)) (fun v29 H30 => (ldI .i64 H30 x4 0 (fun v31 => ld1 H30 x4 1 (fun v32 => ((Value.agg ⟨[(Value.int .i64 v31), v32]⟩) = (Value.agg ⟨[(Value.int .i64 v1), v2]⟩)) ∧ (H30 = H30)))) ∧ (AC Tryd.prog T0 48 [(Value.agg ⟨[(Value.int .i64 v1), v2]⟩), v29, (Value.int .i64 (IntKind.i64.wrap (BitVec.ofInt 64 (IntKind.i64.wrap (BitVec.ofInt 64 x2 ||| BitVec.ofInt 64 (IntKind.i64.wrap (1 * 2 ^ (min (Int.toNat (IntKind.u64.wrap x9)) 64)))).toNat) ||| BitVec.ofInt 64 (IntKind.i64.wrap (1 * 2 ^ (min (Int.toNat (IntKind.u64.wrap x12)) 64)))).toNat)), x3] H30 (fun v33 H34 => B3 P N2 x1 x2 v33 x4 x9 x10 x11 H34))))))))))))))
theorem q4 (P : PT) (N2 : NTy k1 Pr) : QT Tryd.prog T0 77 o4 (.op 0 [] (.op 1 [] (.op 3 [] (.op 4 [] (.op 5 [] (.op 6 [] (.op 9 [] (.op 10 [] (.op 11 [] (.op 12 [] (.op 13 [] (.op 14 [] (.op 15 [] (.op 16 [] (.op 17 [] (.op 18 [] (.alt (.op 2 [0, 6] (.op 7 [] (.op 8 [0] (.op 19 [] (.op 20 [] .done))))) (.op 7 [] (.op 2 [0, 6] (.op 8 [0] (.op 19 [] (.op 20 [] .done)))))))))))))))))))))) (En 77 k1 (B3 P N2)) k2 (B4 P N2) := fun _ _ _ _ _ _ _ _ _ _  => by kernel_rfl
noncomputable def o5 := ob Tryd.f48 [.r,.r,.r,.r,.r,.l,.r,.l,.l,.r,.l,.l,.r,.l]
def B5 (P : PT) (N2 : NTy k1 Pr) (x1 : Value) (x2 : Int) (x3 : Value) (x4 : Nat) (x9 : Int) (x10 : Value) (x11 x12 : Int) (H : AHeap) : Prop :=
  ((0 : Int) ≤ (IntKind.u64.wrap x12)) ∧ (pif ((IntKind.i64.wrap (BitVec.ofInt 64 (Int.fdiv x2 (2 ^ (min (Int.toNat (IntKind.u64.wrap x12)) 64))) &&& BitVec.ofInt 64 1).toNat : Int) == 0) (B4 P N2 x1 x2 x3 x4 x9 x10 x11 x12 H) (B3 P N2 x1 x2 x3 x4 x9 x10 x11 H))
theorem q5 (P : PT) (N2 : NTy k1 Pr) : QB Tryd.prog T0 77 o5 (cnd 55 (En 77 k2 (B4 P N2)) (En 77 k1 (B3 P N2))) k2 (B5 P N2) := fun _ _ _ _ _ _ _ _ _ _  => by kernel_rfl
noncomputable def o6 := ob Tryd.f48 [.r,.r,.r,.r,.r,.l,.r,.l,.l,.r,.l,.l,.l]
def B6 (P : PT) (N2 : NTy k1 Pr) (x1 : Value) (x2 : Int) (x3 : Value) (x4 : Nat) (x9 : Int) (x10 : Value) (x11 : Int) (H : AHeap) : Prop :=
  ldI .i64 H x4 0 (fun v1 => ld1 H x4 1 (fun v2 => idxK x10 x11 1 (fun b3 o4 => ldI .i64 H b3 o4 (fun v5 => AC Tryd.prog T0 66 [(Value.agg ⟨[(Value.int .i64 v1), v2]⟩), (Value.int .i64 v5), (Value.int .i64 x9)] H (fun v6 H7 => asI .i64 v6 (fun v8 => B5 P N2 x1 x2 x3 x4 x9 x10 x11 v8 H7))))))
theorem q6 (P : PT) (N2 : NTy k1 Pr) : QD Tryd.prog T0 77 o6 [(0, false), (1, false), (2, false), (3, false), (4, false), (5, false), (6, false), (7, false)] (En 77 k2 (B5 P N2)) k1 (B6 P N2) := fun _ _ _ _ _ _ _ _ _  => by kernel_rfl
noncomputable def o7 := ob Tryd.f48 [.r,.r,.r,.r,.r,.l,.r,.l,.l,.l,.l]
def B7 (P : PT) (N2 : NTy k1 Pr) (x1 : Value) (x2 : Int) (x3 : Value) (x4 : Nat) (x9 : Int) (x10 : Value) (x11 : Int) (H : AHeap) : Prop :=
  pif (decide ((x11 : Int) < 3)) (B6 P N2 x1 x2 x3 x4 x9 x10 x11 H) (B1 P x3 H)
theorem q7 (P : PT) (N2 : NTy k1 Pr) : QB Tryd.prog T0 77 o7 (cnd 40 (En 77 k1 (B6 P N2)) (En 77 k0 (B1 P))) k1 (B7 P N2) := fun _ _ _ _ _ _ _ _ _  => by kernel_rfl
def L2 (P : PT) (x1 : Value) (x2 : Int) (x3 : Value) (x4 : Nat) (x9 : Int) (x10 : Value) (x11 : Int) (H : AHeap) : Prop :=
  ∃ (I : NTy k1 Pr) (μ : NTy k1 (AHeap → Nat)), I x1 x2 x3 x4 x9 x10 x11 H ∧ ∀ y1 y2 y3 y4 y9 y10 y11 G, I y1 y2 y3 y4 y9 y10 y11 G → B7 P (fun z1 z2 z3 z4 z9 z10 z11 G' => I z1 z2 z3 z4 z9 z10 z11 G' ∧ μ z1 z2 z3 z4 z9 z10 z11 G' < μ y1 y2 y3 y4 y9 y10 y11 G) y1 y2 y3 y4 y9 y10 y11 G
theorem l2 (P : PT) : LQ k1 (L2 P) (B7 P) := fun ⟨_,_,_,_,_,_,_,_⟩ _ ⟨I, μ, h0, hI⟩ => ⟨apT _ I, apT _ μ, h0, fun ⟨_,_,_,_,_,_,_,_⟩ _ h => hI _ _ _ _ _ _ _ _  h⟩
abbrev k3 : Sk := [(1,.v),(2,.i .i64),(3,.v),(4,.x),(9,.i .i64),(10,.v)]
noncomputable def o8 := ob Tryd.f48 [.r,.r,.r,.r,.r,.l,.l]
def B8 (P : PT) (x1 : Value) (x2 : Int) (x3 : Value) (x4 : Nat) (x9 : Int) (x10 : Value) (H : AHeap) : Prop :=
  L2 P x1 x2 x3 x4 x9 x10 0 H
theorem q8 (P : PT) : QB Tryd.prog T0 77 o8 (En 77 k1 (L2 P)) k3 (B8 P) := fun _ _ _ _ _ _ _ _  => by kernel_rfl
abbrev k4 : Sk := [(1,.v),(2,.i .i64),(3,.v),(4,.x),(9,.i .i64)]
noncomputable def o9 := ob Tryd.f48 [.r,.r,.r,.r,.l]
def B9 (P : PT) (x1 : Value) (x2 : Int) (x3 : Value) (x4 : Nat) (x9 : Int) (H : AHeap) : Prop :=
  ldI .i64 H x4 0 (fun v1 => ld1 H x4 1 (fun v2 => AC Tryd.prog T0 65 [(Value.agg ⟨[(Value.int .i64 v1), v2]⟩), (Value.int .i64 x9)] H (fun v3 H4 => B8 P x1 x2 x3 x4 x9 v3 H4)))
theorem q9 (P : PT) : QB Tryd.prog T0 77 o9 (En 77 k3 (B8 P)) k4 (B9 P) := fun _ _ _ _ _ _ _  => by kernel_rfl
abbrev k5 : Sk := [(1,.v),(3,.v)]
noncomputable def o10 := ob Tryd.f48 [.r,.r,.r,.l,.r,.l,.l]
def B10 (P : PT) (x1 x3 : Value) (H : AHeap) : Prop :=
  AC Tryd.prog T0 64 [x1] H (fun v1 H2 => pif (Value.oneCell' v1) (newK H2 [v1] 26 (fun b4 H5 => apK T0 26 H5 x3 (Value.slice (some ⟨b4, 0, none⟩) 1 (1 + 1)) (fun v6 H7 => P v6 H7))) False)
theorem q10 (P : PT) : QB Tryd.prog T0 77 o10 (ret P) k5 (B10 P) := fun _ _ _ _  => by kernel_rfl
noncomputable def o11 := ob Tryd.f48 [.r,.r,.r,.l,.l]
def B11 (P : PT) (x1 : Value) (x2 : Int) (x3 : Value) (x4 : Nat) (x9 : Int) (H : AHeap) : Prop :=
  ldI .i64 H x4 0 (fun v1 => pif ((x9 : Int) == v1) (B10 P x1 x3 H) (B9 P x1 x2 x3 x4 x9 H))
theorem q11 (P : PT) : QB Tryd.prog T0 77 o11 (cnd 30 (En 77 k5 (B10 P)) (En 77 k4 (B9 P))) k4 (B11 P) := fun _ _ _ _ _ _ _  => by kernel_rfl
noncomputable def o13 := ob Tryd.f48 [.r,.r,.l,.l,.l,.r,.l]
def B13 (P : PT) (N12 : NTy k4 Pr) (x1 : Value) (x2 : Int) (x3 : Value) (x4 : Nat) (x9 : Int) (H : AHeap) : Prop :=
  N12 x1 x2 x3 x4 (IntKind.i64.wrap (x9 + 1)) H
theorem q13 (P : PT) (N12 : NTy k4 Pr) : QB Tryd.prog T0 77 o13 (En 77 k4 N12) k4 (B13 P N12) := fun _ _ _ _ _ _ _  => by kernel_rfl
noncomputable def o14 := ob Tryd.f48 [.r,.r,.l,.l,.l,.l,.l]
def B14 (P : PT) (N12 : NTy k4 Pr) (x1 : Value) (x2 : Int) (x3 : Value) (x4 : Nat) (x9 : Int) (H : AHeap) : Prop :=
  ldI .i64 H x4 0 (fun v1 => pif (decide ((x9 : Int) < v1)) (((0 : Int) ≤ (IntKind.u64.wrap x9)) ∧ (pif ((IntKind.i64.wrap (BitVec.ofInt 64 (Int.fdiv x2 (2 ^ (min (Int.toNat (IntKind.u64.wrap x9)) 64))) &&& BitVec.ofInt 64 1).toNat : Int) == 1) (B13 P N12 x1 x2 x3 x4 x9 H) (B11 P x1 x2 x3 x4 x9 H))) (B11 P x1 x2 x3 x4 x9 H))
theorem q14 (P : PT) (N12 : NTy k4 Pr) : QB Tryd.prog T0 77 o14 (cnd 24 (En 77 k4 (B13 P N12)) (En 77 k4 (B11 P))) k4 (B14 P N12) := fun _ _ _ _ _ _ _  => by kernel_rfl
def L12 (P : PT) (x1 : Value) (x2 : Int) (x3 : Value) (x4 : Nat) (x9 : Int) (H : AHeap) : Prop :=
  ∃ (I : NTy k4 Pr) (μ : NTy k4 (AHeap → Nat)), I x1 x2 x3 x4 x9 H ∧ ∀ y1 y2 y3 y4 y9 G, I y1 y2 y3 y4 y9 G → B14 P (fun z1 z2 z3 z4 z9 G' => I z1 z2 z3 z4 z9 G' ∧ μ z1 z2 z3 z4 z9 G' < μ y1 y2 y3 y4 y9 G) y1 y2 y3 y4 y9 G
theorem l12 (P : PT) : LQ k4 (L12 P) (B14 P) := fun ⟨_,_,_,_,_,_⟩ _ ⟨I, μ, h0, hI⟩ => ⟨apT _ I, apT _ μ, h0, fun ⟨_,_,_,_,_,_⟩ _ h => hI _ _ _ _ _ _  h⟩
abbrev k6 : Sk := [(1,.v),(2,.i .i64),(3,.v),(4,.x)]
noncomputable def o15 := ob Tryd.f48 [.r,.l]
def B15 (P : PT) (x1 : Value) (x2 : Int) (x3 : Value) (x4 : Nat) (H : AHeap) : Prop :=
  L12 P x1 x2 x3 x4 0 H
theorem q15 (P : PT) : QB Tryd.prog T0 77 o15 (En 77 k4 (L12 P)) k6 (B15 P) := fun _ _ _ _ _ _  => by kernel_rfl
abbrev k7 : Sk := [(0,.g [.i,.v]),(1,.v),(2,.i .i64),(3,.v)]
noncomputable def o16 := ob Tryd.f48 [.l]
def B16 (P : PT) (x0a : Int) (x0b x1 : Value) (x2 : Int) (x3 : Value) (H : AHeap) : Prop :=
  newK H [(Value.int .i64 x0a), x0b] 31 (fun b1 H2 => B15 P x1 x2 x3 b1 H2)
theorem q16 (P : PT) : QB Tryd.prog T0 77 o16 (En 77 k6 (B15 P)) k7 (B16 P) := fun _ _ _ _ _ _ _  => by kernel_rfl
noncomputable def code : Code := (.seq (.region 0 ⟨o16⟩ false) (.seq (.region 1 ⟨o15⟩ false) (.seq (.block 0 (.loop (.seq (.seq (.region 2 ⟨o14⟩ false) (.cond (.tmp 24) .skip (.exit 0))) (.block 1 (.region 3 ⟨o13⟩ false))))) (.seq (.seq (.region 4 ⟨o11⟩ false) (.cond (.tmp 30) (.seq (.region 5 ⟨o10⟩ false) .ret) .skip)) (.seq (.region 6 ⟨o9⟩ false) (.seq (.seq (.region 7 ⟨o8⟩ false) (.block 2 (.loop (.seq (.seq (.region 8 ⟨o7⟩ false) (.cond (.tmp 40) .skip (.exit 2))) (.seq (.block 3 (.seq (.region 10 ⟨o6⟩ true) (.seq (.region 11 ⟨o5⟩ false) (.cond (.tmp 55) (.region 12 ⟨o4⟩ true) .skip)))) (.region 9 ⟨o3⟩ false)))))) (.seq (.region 13 ⟨o1⟩ false) .ret)))))))
theorem body : Tryd.f48.body = some code := by kernel_rfl
theorem main (P : PT) : ∀ env H, (En 77 k7 (B16 P)) env H → AW Tryd.prog T0 code env H (mkQ (ret P) (fun _ _ _ => False) (ret P)) :=
  (r_seq (rB T0_ok (q16 P)) (r_seq (rB T0_ok (q15 P)) (r_seq (r_block (rL (l12 P) (fun N12 => (r_seq (r_seq (rB T0_ok (q14 P N12)) (r_cond rfl r_skip (r_exit (fun _ _ h => h)))) (r_block (rB T0_ok (q13 P N12))))))) (r_seq (r_seq (rB T0_ok (q11 P)) (r_cond rfl (r_seq (rB T0_ok (q10 P)) r_ret) r_skip)) (r_seq (rB T0_ok (q9 P)) (r_seq (r_seq (rB T0_ok (q8 P)) (r_block (rL (l2 P) (fun N2 => (r_seq (r_seq (rB T0_ok (q7 P N2)) (r_cond rfl r_skip (r_exit (fun _ _ h => h)))) (r_seq (r_block (r_seq (rD T0_ok mixed [(0, false), (1, false), (2, false), (3, false), (4, false), (5, false), (6, false), (7, false)] (by kernel_rfl) (q6 P N2)) (r_seq (rB T0_ok (q5 P N2)) (r_cond rfl (rT T0_ok mixed (.op 0 [] (.op 1 [] (.op 3 [] (.op 4 [] (.op 5 [] (.op 6 [] (.op 9 [] (.op 10 [] (.op 11 [] (.op 12 [] (.op 13 [] (.op 14 [] (.op 15 [] (.op 16 [] (.op 17 [] (.op 18 [] (.alt (.op 2 [0, 6] (.op 7 [] (.op 8 [0] (.op 19 [] (.op 20 [] .done))))) (.op 7 [] (.op 2 [0, 6] (.op 8 [0] (.op 19 [] (.op 20 [] .done)))))))))))))))))))))) (by kernel_rfl) (q4 P N2)) r_skip)))) (rB T0_ok (q3 P N2)))))))) (r_seq (rB T0_ok (q1 P)) r_ret)))))))
theorem ac (P : PT) (x0a : Int) (x0b x1 : Value) (x2 : Int) (x3 : Value) (H : AHeap) (h : B16 P x0a x0b x1 x2 x3 H) : AC Tryd.prog T0 48 [(Value.agg ⟨[(Value.int .i64 x0a), x0b]⟩), x1, (Value.int .i64 x2), x3] H P :=
  r_fn T0_ok (c := code) (n := 77) Tryd.func48 body (by kernel_rfl) (main P) (En_mk (x0a, x0b, x1, x2, x3, ()) (by kernel_rfl) ⟨by kernel_rfl, by kernel_rfl, by kernel_rfl, by kernel_rfl, trivial⟩ h)

end F48
-- loop.example/g01329/spec.l04Has
namespace F49
noncomputable def ret (P : PT) : EP := retE T0 18 Tryd.f49 P
abbrev k0 : Sk := []
noncomputable def o1 := ob Tryd.f49 [.r,.r,.l]
def B1 (P : PT) (H : AHeap) : Prop :=
  P (Value.bool false) H
theorem q1 (P : PT) : QB Tryd.prog T0 18 o1 (ret P) k0 (B1 P) := fun _ _  => by kernel_rfl
abbrev k1 : Sk := [(0,.v),(1,.i .i64),(5,.i .i64)]
noncomputable def o3 := ob Tryd.f49 [.r,.l,.r,.l,.l,.r,.r]
def B3 (P : PT) (N2 : NTy k1 Pr) (x0 : Value) (x1 x5 : Int) (H : AHeap) : Prop :=
  N2 x0 x1 (IntKind.i64.wrap (x5 + 1)) H
theorem q3 (P : PT) (N2 : NTy k1 Pr) : QB Tryd.prog T0 18 o3 (En 18 k1 N2) k1 (B3 P N2) := fun _ _ _ _ _  => by kernel_rfl
noncomputable def o4 := ob Tryd.f49 [.r,.l,.r,.l,.l,.r,.l,.l,.r,.l,.l]
def B4 (P : PT) (N2 : NTy k1 Pr) (H : AHeap) : Prop :=
  P (Value.bool true) H
theorem q4 (P : PT) (N2 : NTy k1 Pr) : QB Tryd.prog T0 18 o4 (ret P) k0 (B4 P N2) := fun _ _  => by kernel_rfl
noncomputable def o5 := ob Tryd.f49 [.r,.l,.r,.l,.l,.r,.l,.l,.l]
def B5 (P : PT) (N2 : NTy k1 Pr) (x0 : Value) (x1 x5 : Int) (H : AHeap) : Prop :=
  idxK x0 x5 1 (fun b1 o2 => ldI .i64 H b1 o2 (fun v3 => pif ((v3 : Int) == x1) (B4 P N2 H) (B3 P N2 x0 x1 x5 H)))
theorem q5 (P : PT) (N2 : NTy k1 Pr) : QB Tryd.prog T0 18 o5 (cnd 17 (En 18 k0 (B4 P N2)) (En 18 k1 (B3 P N2))) k1 (B5 P N2) := fun _ _ _ _ _  => by kernel_rfl
noncomputable def o6 := ob Tryd.f49 [.r,.l,.r,.l,.l,.l,.l]
def B6 (P : PT) (N2 : NTy k1 Pr) (x0 : Value) (x1 x5 : Int) (H : AHeap) : Prop :=
  lenK x0 (fun n1 => pif (decide ((x5 : Int) < (n1 : Int))) (B5 P N2 x0 x1 x5 H) (B1 P H))
theorem q6 (P : PT) (N2 : NTy k1 Pr) : QB Tryd.prog T0 18 o6 (cnd 9 (En 18 k1 (B5 P N2)) (En 18 k0 (B1 P))) k1 (B6 P N2) := fun _ _ _ _ _  => by kernel_rfl
def L2 (P : PT) (x0 : Value) (x1 x5 : Int) (H : AHeap) : Prop :=
  ∃ (I : NTy k1 Pr) (μ : NTy k1 (AHeap → Nat)), I x0 x1 x5 H ∧ ∀ y0 y1 y5 G, I y0 y1 y5 G → B6 P (fun z0 z1 z5 G' => I z0 z1 z5 G' ∧ μ z0 z1 z5 G' < μ y0 y1 y5 G) y0 y1 y5 G
theorem l2 (P : PT) : LQ k1 (L2 P) (B6 P) := fun ⟨_,_,_,_⟩ _ ⟨I, μ, h0, hI⟩ => ⟨apT _ I, apT _ μ, h0, fun ⟨_,_,_,_⟩ _ h => hI _ _ _ _  h⟩
abbrev k2 : Sk := [(0,.v),(1,.i .i64)]
noncomputable def o7 := ob Tryd.f49 [.r,.l,.l]
def B7 (P : PT) (x0 : Value) (x1 : Int) (H : AHeap) : Prop :=
  L2 P x0 x1 0 H
theorem q7 (P : PT) : QB Tryd.prog T0 18 o7 (En 18 k1 (L2 P)) k2 (B7 P) := fun _ _ _ _  => by kernel_rfl
noncomputable def o8 := ob Tryd.f49 [.l]
def B8 (P : PT) (x0 : Value) (x1 : Int) (H : AHeap) : Prop :=
  B7 P x0 x1 H
theorem q8 (P : PT) : QB Tryd.prog T0 18 o8 (En 18 k2 (B7 P)) k2 (B8 P) := fun _ _ _ _  => by kernel_rfl
noncomputable def code : Code := (.seq (.region 0 ⟨o8⟩ false) (.seq (.seq (.region 1 ⟨o7⟩ false) (.block 0 (.loop (.seq (.seq (.region 2 ⟨o6⟩ false) (.cond (.tmp 9) .skip (.exit 0))) (.seq (.block 1 (.seq (.region 4 ⟨o5⟩ false) (.cond (.tmp 17) (.seq (.region 5 ⟨o4⟩ false) .ret) .skip))) (.region 3 ⟨o3⟩ false)))))) (.seq (.region 6 ⟨o1⟩ false) .ret)))
theorem body : Tryd.f49.body = some code := by kernel_rfl
theorem main (P : PT) : ∀ env H, (En 18 k2 (B8 P)) env H → AW Tryd.prog T0 code env H (mkQ (ret P) (fun _ _ _ => False) (ret P)) :=
  (r_seq (rB T0_ok (q8 P)) (r_seq (r_seq (rB T0_ok (q7 P)) (r_block (rL (l2 P) (fun N2 => (r_seq (r_seq (rB T0_ok (q6 P N2)) (r_cond rfl r_skip (r_exit (fun _ _ h => h)))) (r_seq (r_block (r_seq (rB T0_ok (q5 P N2)) (r_cond rfl (r_seq (rB T0_ok (q4 P N2)) r_ret) r_skip))) (rB T0_ok (q3 P N2)))))))) (r_seq (rB T0_ok (q1 P)) r_ret)))
theorem ac (P : PT) (x0 : Value) (x1 : Int) (H : AHeap) (h : B8 P x0 x1 H) : AC Tryd.prog T0 49 [x0, (Value.int .i64 x1)] H P :=
  r_fn T0_ok (c := code) (n := 18) Tryd.func49 body (by kernel_rfl) (main P) (En_mk (x0, x1, ()) (by kernel_rfl) ⟨by kernel_rfl, by kernel_rfl, trivial⟩ h)

end F49
-- loop.example/g01329/laws.toEdge
namespace F50
noncomputable def ret (P : PT) : EP := retE T0 15 Tryd.f50 P
abbrev k0 : Sk := [(2,.x),(3,.x)]
noncomputable def o1 := ob Tryd.f50 [.r,.r,.r,.l]
def B1 (P : PT) (x2 x3 : Nat) (H : AHeap) : Prop :=
  ldI .i64 H x3 0 (fun v1 => ldI .i64 H x3 1 (fun v2 => stK H x2 0 [(Value.int .i64 v1), (Value.int .i64 v2)] (fun H3 => ldI .i64 H3 x2 0 (fun v4 => ldI .i64 H3 x2 1 (fun v5 => P (Value.agg ⟨[(Value.int .i64 v4), (Value.int .i64 v5)]⟩) H3)))))
theorem q1 (P : PT) : QB Tryd.prog T0 15 o1 (ret P) k0 (B1 P) := fun _ _ _ _  => by kernel_rfl
abbrev k1 : Sk := [(1,.x),(2,.x),(3,.x),(4,.i .i64)]
noncomputable def o3 := ob Tryd.f50 [.r,.r,.l,.r,.l,.l,.r,.r]
def B3 (P : PT) (N2 : NTy k1 Pr) (x1 x2 x3 : Nat) (x4 : Int) (H : AHeap) : Prop :=
  N2 x1 x2 x3 (IntKind.i64.wrap (x4 + 1)) H
theorem q3 (P : PT) (N2 : NTy k1 Pr) : QB Tryd.prog T0 15 o3 (En 15 k1 N2) k1 (B3 P N2) := fun _ _ _ _ _ _  => by kernel_rfl
noncomputable def o4 := ob Tryd.f50 [.r,.r,.l,.r,.l,.l,.r,.l,.l]
def B4 (P : PT) (N2 : NTy k1 Pr) (x1 x2 x3 : Nat) (x4 : Int) (H : AHeap) : Prop :=
  bndK x4 2 (ldI .i64 H x1 (0 + Int.toNat x4 * 1) (fun v1 => bndK x4 2 (stK H x3 (0 + Int.toNat x4 * 1) [(Value.int .i64 v1)] (fun H2 => B3 P N2 x1 x2 x3 x4 H2))))
theorem q4 (P : PT) (N2 : NTy k1 Pr) : QB Tryd.prog T0 15 o4 (En 15 k1 (B3 P N2)) k1 (B4 P N2) := fun _ _ _ _ _ _  => by kernel_rfl
noncomputable def o5 := ob Tryd.f50 [.r,.r,.l,.r,.l,.l,.l,.l]
def B5 (P : PT) (N2 : NTy k1 Pr) (x1 x2 x3 : Nat) (x4 : Int) (H : AHeap) : Prop :=
  pif (decide ((x4 : Int) < 2)) (B4 P N2 x1 x2 x3 x4 H) (B1 P x2 x3 H)
theorem q5 (P : PT) (N2 : NTy k1 Pr) : QB Tryd.prog T0 15 o5 (cnd 6 (En 15 k1 (B4 P N2)) (En 15 k0 (B1 P))) k1 (B5 P N2) := fun _ _ _ _ _ _  => by kernel_rfl
def L2 (P : PT) (x1 x2 x3 : Nat) (x4 : Int) (H : AHeap) : Prop :=
  ∃ (I : NTy k1 Pr) (μ : NTy k1 (AHeap → Nat)), I x1 x2 x3 x4 H ∧ ∀ y1 y2 y3 y4 G, I y1 y2 y3 y4 G → B5 P (fun z1 z2 z3 z4 G' => I z1 z2 z3 z4 G' ∧ μ z1 z2 z3 z4 G' < μ y1 y2 y3 y4 G) y1 y2 y3 y4 G
theorem l2 (P : PT) : LQ k1 (L2 P) (B5 P) := fun ⟨_,_,_,_,_⟩ _ ⟨I, μ, h0, hI⟩ => ⟨apT _ I, apT _ μ, h0, fun ⟨_,_,_,_,_⟩ _ h => hI _ _ _ _ _  h⟩
abbrev k2 : Sk := [(1,.x),(2,.x),(3,.x)]
noncomputable def o6 := ob Tryd.f50 [.r,.r,.l,.l]
def B6 (P : PT) (x1 x2 x3 : Nat) (H : AHeap) : Prop :=
  L2 P x1 x2 x3 0 H
theorem q6 (P : PT) : QB Tryd.prog T0 15 o6 (En 15 k1 (L2 P)) k2 (B6 P) := fun _ _ _ _ _  => by kernel_rfl
abbrev k3 : Sk := [(1,.x),(2,.x)]
noncomputable def o7 := ob Tryd.f50 [.r,.l]
def B7 (P : PT) (x1 x2 : Nat) (H : AHeap) : Prop :=
  newK H [(Value.int .i64 0), (Value.int .i64 0)] 74 (fun b1 H2 => B6 P x1 x2 b1 H2)
theorem q7 (P : PT) : QB Tryd.prog T0 15 o7 (En 15 k2 (B6 P)) k3 (B7 P) := fun _ _ _ _  => by kernel_rfl
abbrev k4 : Sk := [(0,.g [.i,.i])]
noncomputable def o8 := ob Tryd.f50 [.l]
def B8 (P : PT) (x0a x0b : Int) (H : AHeap) : Prop :=
  newK H [(Value.int .i64 x0a), (Value.int .i64 x0b)] 73 (fun b1 H2 => newK H2 [(Value.int .i64 0), (Value.int .i64 0)] 74 (fun b3 H4 => B7 P b1 b3 H4))
theorem q8 (P : PT) : QB Tryd.prog T0 15 o8 (En 15 k3 (B7 P)) k4 (B8 P) := fun _ _ _ _  => by kernel_rfl
noncomputable def code : Code := (.seq (.region 0 ⟨o8⟩ false) (.seq (.region 1 ⟨o7⟩ false) (.seq (.seq (.region 2 ⟨o6⟩ false) (.block 0 (.loop (.seq (.seq (.region 3 ⟨o5⟩ false) (.cond (.tmp 6) .skip (.exit 0))) (.seq (.block 1 (.region 5 ⟨o4⟩ false)) (.region 4 ⟨o3⟩ false)))))) (.seq (.region 6 ⟨o1⟩ false) .ret))))
theorem body : Tryd.f50.body = some code := by kernel_rfl
theorem main (P : PT) : ∀ env H, (En 15 k4 (B8 P)) env H → AW Tryd.prog T0 code env H (mkQ (ret P) (fun _ _ _ => False) (ret P)) :=
  (r_seq (rB T0_ok (q8 P)) (r_seq (rB T0_ok (q7 P)) (r_seq (r_seq (rB T0_ok (q6 P)) (r_block (rL (l2 P) (fun N2 => (r_seq (r_seq (rB T0_ok (q5 P N2)) (r_cond rfl r_skip (r_exit (fun _ _ h => h)))) (r_seq (r_block (rB T0_ok (q4 P N2))) (rB T0_ok (q3 P N2)))))))) (r_seq (rB T0_ok (q1 P)) r_ret))))
theorem ac (P : PT) (x0a x0b : Int) (H : AHeap) (h : B8 P x0a x0b H) : AC Tryd.prog T0 50 [(Value.agg ⟨[(Value.int .i64 x0a), (Value.int .i64 x0b)]⟩)] H P :=
  r_fn T0_ok (c := code) (n := 15) Tryd.func50 body (by kernel_rfl) (main P) (En_mk (x0a, x0b, ()) (by kernel_rfl) ⟨by kernel_rfl, trivial⟩ h)

end F50
-- loop.example/g01329/impl.IsGraph
namespace F51
noncomputable def ret (P : PT) : EP := retE T0 25 Tryd.f51 P
abbrev k0 : Sk := [(1,.x)]
noncomputable def o1 := ob Tryd.f51 [.r,.l]
def B1 (P : PT) (x1 : Nat) (H : AHeap) : Prop :=
  ldI .i64 H x1 0 (fun v1 => ld1 H x1 1 (fun v2 => AC Tryd.prog T0 67 [(Value.int .i64 v1), v2] H (fun v3 H4 => asB v3 (fun v5 => pif v5 (ld1 H4 x1 1 (fun v6 => AC Tryd.prog T0 68 [v6, (Value.func (.func 69) ⟨[]⟩ ⟨[]⟩)] H4 (fun v7 H8 => asB v7 (fun v9 => pif v9 (ld1 H8 x1 1 (fun v10 => AC Tryd.prog T0 70 [v10, (Value.func (.func 71) ⟨[]⟩ ⟨[]⟩)] H8 (fun v11 H12 => asB v11 (fun v13 => pif v13 (ldI .i64 H12 x1 0 (fun v14 => ld1 H12 x1 1 (fun v15 => AC Tryd.prog T0 72 [(Value.int .i64 v14), v15] H12 (fun v16 H17 => asB v16 (fun v18 => P (Value.bool v18) H17))))) (P (Value.bool false) H12))))) (P (Value.bool false) H8))))) (P (Value.bool false) H4)))))
theorem q1 (P : PT) : QB Tryd.prog T0 25 o1 (ret P) k0 (B1 P) := fun _ _ _  => by kernel_rfl
abbrev k1 : Sk := [(0,.g [.i,.v])]
noncomputable def o2 := ob Tryd.f51 [.l]
def B2 (P : PT) (x0a : Int) (x0b : Value) (H : AHeap) : Prop :=
  newK H [(Value.int .i64 x0a), x0b] 31 (fun b1 H2 => B1 P b1 H2)
theorem q2 (P : PT) : QB Tryd.prog T0 25 o2 (En 25 k0 (B1 P)) k1 (B2 P) := fun _ _ _ _  => by kernel_rfl
noncomputable def code : Code := (.seq (.region 0 ⟨o2⟩ false) (.seq (.region 1 ⟨o1⟩ false) .ret))
theorem body : Tryd.f51.body = some code := by kernel_rfl
theorem main (P : PT) : ∀ env H, (En 25 k1 (B2 P)) env H → AW Tryd.prog T0 code env H (mkQ (ret P) (fun _ _ _ => False) (ret P)) :=
  (r_seq (rB T0_ok (q2 P)) (r_seq (rB T0_ok (q1 P)) r_ret))
theorem ac (P : PT) (x0a : Int) (x0b : Value) (H : AHeap) (h : B2 P x0a x0b H) : AC Tryd.prog T0 51 [(Value.agg ⟨[(Value.int .i64 x0a), x0b]⟩)] H P :=
  r_fn T0_ok (c := code) (n := 25) Tryd.func51 body (by kernel_rfl) (main P) (En_mk (x0a, x0b, ()) (by kernel_rfl) ⟨by kernel_rfl, trivial⟩ h)

end F51
-- (loop.example/g01329/impl.Graph).matchings$1
namespace F52
noncomputable def ret (P : PT) : EP := retE T0 59 Tryd.f52 P
abbrev k0 : Sk := []
noncomputable def o1 := ob Tryd.f52 [.r,.r,.r,.r,.l]
def B1 (P : PT) (H : AHeap) : Prop :=
  P (Value.bool false) H
theorem q1 (P : PT) : QB Tryd.prog T0 59 o1 (ret P) k0 (B1 P) := fun _ _  => by kernel_rfl
abbrev k1 : Sk := [(0,.i .u64),(1,.i .u64),(2,.v),(4,.v),(8,.i .i64),(26,.v),(27,.i .i64),(28,.i .i64)]
noncomputable def o3 := ob Tryd.f52 [.r,.r,.r,.l,.r,.l,.l,.r,.r,.r]
def B3 (P : PT) (N2 : NTy k1 Pr) (x0 x1 : Int) (x2 x4 : Value) (x8 : Int) (x26 : Value) (x27 x28 : Int) (H : AHeap) : Prop :=
  N2 x0 x1 x2 x4 x8 x26 x27 (IntKind.i64.wrap (x28 + 1)) H
theorem q3 (P : PT) (N2 : NTy k1 Pr) : QB Tryd.prog T0 59 o3 (En 59 k1 N2) k1 (B3 P N2) := fun _ _ _ _ _ _ _ _ _ _  => by kernel_rfl
noncomputable def o4 := ob Tryd.f52 [.r,.r,.r,.l,.r,.l,.l,.r,.r,.l,.l,.r,.r,.r,.l,.l]
def B4 (P : PT) (N2 : NTy k1 Pr) (H : AHeap) : Prop :=
  P (Value.bool true) H
theorem q4 (P : PT) (N2 : NTy k1 Pr) : QB Tryd.prog T0 59 o4 (ret P) k0 (B4 P N2) := fun _ _  => by kernel_rfl
abbrev k2 : Sk := [(0,.i .u64),(1,.i .u64),(2,.v),(4,.v),(8,.i .i64),(10,.i .i64),(11,.i .i64),(26,.v),(27,.i .i64),(28,.i .i64)]
noncomputable def o5 := ob Tryd.f52 [.r,.r,.r,.l,.r,.l,.l,.r,.r,.l,.l,.r,.r,.l]
def B5 (P : PT) (N2 : NTy k1 Pr) (x0 x1 : Int) (x2 x4 : Value) (x8 x10 x11 : Int) (x26 : Value) (x27 x28 : Int) (H : AHeap) : Prop :=
  AC Tryd.prog T0 42 [(Value.int .u64 x1), (Value.int .i64 x11)] H (fun v1 H2 => asB v1 (fun v3 => pif (!v3) (asP x4 (fun b4 o5 => ld1 H2 b4 o5 (fun v6 => ((0 : Int) ≤ x10) ∧ (((0 : Int) ≤ x8) ∧ (((0 : Int) ≤ x11) ∧ (callV Tryd.prog T0 v6 [(Value.int .u64 (IntKind.u64.wrap (BitVec.ofInt 64 x0 ||| BitVec.ofInt 64 (IntKind.u64.wrap (1 * 2 ^ (min (Int.toNat x10) 64)))).toNat)), (Value.int .u64 (IntKind.u64.wrap (BitVec.ofInt 64 (IntKind.u64.wrap (BitVec.ofInt 64 x1 ||| BitVec.ofInt 64 (IntKind.u64.wrap (1 * 2 ^ (min (Int.toNat x8) 64)))).toNat) ||| BitVec.ofInt 64 (IntKind.u64.wrap (1 * 2 ^ (min (Int.toNat x11) 64)))).toNat))] H2 (fun v7 H8 => asB v7 (fun v9 => pif v9 (B4 P N2 H8) (B3 P N2 x0 x1 x2 x4 x8 x26 x27 x28 H8))))))))) (B3 P N2 x0 x1 x2 x4 x8 x26 x27 x28 H2)))
theorem q5 (P : PT) (N2 : NTy k1 Pr) : QD Tryd.prog T0 59 o5 [(0, false), (1, false), (2, false), (3, false), (4, false), (5, false), (6, false), (7, false), (8, false), (9, false), (10, false), (11, false), (12, false), (13, false), (14, false), (15, false), (16, false), (17, false), (18, false)] (cnd 57 (En 59 k0 (B4 P N2)) (En 59 k1 (B3 P N2))) k2 (B5 P N2) := fun _ _ _ _ _ _ _ _ _ _ _ _  => by kernel_rfl
abbrev k3 : Sk := [(0,.i .u64),(1,.i .u64),(2,.v),(4,.v),(8,.i .i64),(10,.i .i64),(26,.v),(27,.i .i64),(28,.i .i64)]
noncomputable def o6 := ob Tryd.f52 [.r,.r,.r,.l,.r,.l,.l,.r,.r,.l,.l,.r,.l]
def B6 (P : PT) (N2 : NTy k1 Pr) (x0 x1 : Int) (x2 x4 : Value) (x8 x10 : Int) (x26 : Value) (x27 x28 : Int) (H : AHeap) : Prop :=
  asP x2 (fun b1 o2 => ld1 H b1 (o2 + 1) (fun v3 => idxK v3 x10 2 (fun b4 o5 => ldI .i64 H b4 o5 (fun v6 => ldI .i64 H b4 (o5 + 1) (fun v7 => AC Tryd.prog T0 55 [(Value.agg ⟨[(Value.int .i64 v6), (Value.int .i64 v7)]⟩), (Value.int .i64 x8)] H (fun v8 H9 => asI .i64 v8 (fun v10 => B5 P N2 x0 x1 x2 x4 x8 x10 v10 x26 x27 x28 H9)))))))
theorem q6 (P : PT) (N2 : NTy k1 Pr) : QB Tryd.prog T0 59 o6 (En 59 k2 (B5 P N2)) k3 (B6 P N2) := fun _ _ _ _ _ _ _ _ _ _ _  => by kernel_rfl
noncomputable def o7 := ob Tryd.f52 [.r,.r,.r,.l,.r,.l,.l,.r,.r,.l,.l,.l]
def B7 (P : PT) (N2 : NTy k1 Pr) (x0 x1 : Int) (x2 x4 : Value) (x8 : Int) (x26 : Value) (x27 x28 : Int) (H : AHeap) : Prop :=
  idxK x26 x28 1 (fun b1 o2 => ldI .i64 H b1 o2 (fun v3 => B6 P N2 x0 x1 x2 x4 x8 v3 x26 x27 x28 H))
theorem q7 (P : PT) (N2 : NTy k1 Pr) : QB Tryd.prog T0 59 o7 (En 59 k3 (B6 P N2)) k1 (B7 P N2) := fun _ _ _ _ _ _ _ _ _ _  => by kernel_rfl
noncomputable def o8 := ob Tryd.f52 [.r,.r,.r,.l,.r,.l,.l,.l]
def B8 (P : PT) (N2 : NTy k1 Pr) (x0 x1 : Int) (x2 x4 : Value) (x8 : Int) (x26 : Value) (x27 x28 : Int) (H : AHeap) : Prop :=
  pif (decide ((x28 : Int) < x27)) (B7 P N2 x0 x1 x2 x4 x8 x26 x27 x28 H) (B1 P H)
theorem q8 (P : PT) (N2 : NTy k1 Pr) : QB Tryd.prog T0 59 o8 (cnd 29 (En 59 k1 (B7 P N2)) (En 59 k0 (B1 P))) k1 (B8 P N2) := fun _ _ _ _ _ _ _ _ _ _  => by kernel_rfl
def L2 (P : PT) (x0 x1 : Int) (x2 x4 : Value) (x8 : Int) (x26 : Value) (x27 x28 : Int) (H : AHeap) : Prop :=
  ∃ (I : NTy k1 Pr) (μ : NTy k1 (AHeap → Nat)), I x0 x1 x2 x4 x8 x26 x27 x28 H ∧ ∀ y0 y1 y2 y4 y8 y26 y27 y28 G, I y0 y1 y2 y4 y8 y26 y27 y28 G → B8 P (fun z0 z1 z2 z4 z8 z26 z27 z28 G' => I z0 z1 z2 z4 z8 z26 z27 z28 G' ∧ μ z0 z1 z2 z4 z8 z26 z27 z28 G' < μ y0 y1 y2 y4 y8 y26 y27 y28 G) y0 y1 y2 y4 y8 y26 y27 y28 G
theorem l2 (P : PT) : LQ k1 (L2 P) (B8 P) := fun ⟨_,_,_,_,_,_,_,_,_⟩ _ ⟨I, μ, h0, hI⟩ => ⟨apT _ I, apT _ μ, h0, fun ⟨_,_,_,_,_,_,_,_,_⟩ _ h => hI _ _ _ _ _ _ _ _ _  h⟩
abbrev k4 : Sk := [(0,.i .u64),(1,.i .u64),(2,.v),(4,.v),(8,.i .i64)]
noncomputable def o9 := ob Tryd.f52 [.r,.r,.r,.l,.l]
def B9 (P : PT) (x0 x1 : Int) (x2 x4 : Value) (x8 : Int) (H : AHeap) : Prop :=
  asP x2 (fun b1 o2 => ldI .i64 H b1 o2 (fun v3 => ld1 H b1 (o2 + 1) (fun v4 => AC Tryd.prog T0 54 [(Value.agg ⟨[(Value.int .i64 v3), v4]⟩), (Value.int .i64 x8)] H (fun v5 H6 => lenK v5 (fun n8 => L2 P x0 x1 x2 x4 x8 v5 (n8 : Int) 0 H6)))))
theorem q9 (P : PT) : QB Tryd.prog T0 59 o9 (En 59 k1 (L2 P)) k4 (B9 P) := fun _ _ _ _ _ _ _  => by kernel_rfl
abbrev k5 : Sk := [(0,.i .u64),(1,.i .u64),(2,.v),(4,.v)]
noncomputable def o10 := ob Tryd.f52 [.r,.r,.l]
def B10 (P : PT) (x0 x1 : Int) (x2 x4 : Value) (H : AHeap) : Prop :=
  AC Tryd.prog T0 53 [(Value.int .u64 (IntKind.u64.wrap (BitVec.ofInt 64 18446744073709551615 ^^^ BitVec.ofInt 64 x1).toNat))] H (fun v1 H2 => asI .i64 v1 (fun v3 => B9 P x0 x1 x2 x4 v3 H2))
theorem q10 (P : PT) : QB Tryd.prog T0 59 o10 (En 59 k4 (B9 P)) k5 (B10 P) := fun _ _ _ _ _ _  => by kernel_rfl
abbrev k6 : Sk := [(0,.i .u64),(3,.v)]
noncomputable def o11 := ob Tryd.f52 [.r,.l,.r,.l,.l]
def B11 (P : PT) (x0 : Int) (x3 : Value) (H : AHeap) : Prop :=
  asP x3 (fun b1 o2 => ld1 H b1 o2 (fun v3 => callV Tryd.prog T0 v3 [(Value.int .u64 x0)] H (fun v4 H5 => asB v4 (fun v6 => P (Value.bool v6) H5))))
theorem q11 (P : PT) : QB Tryd.prog T0 59 o11 (ret P) k6 (B11 P) := fun _ _ _ _  => by kernel_rfl
abbrev k7 : Sk := [(0,.i .u64),(1,.i .u64),(2,.v),(3,.v),(4,.v)]
noncomputable def o12 := ob Tryd.f52 [.r,.l,.l]
def B12 (P : PT) (x0 x1 : Int) (x2 x3 x4 : Value) (H : AHeap) : Prop :=
  asP x2 (fun b1 o2 => ldI .i64 H b1 o2 (fun v3 => ((0 : Int) ≤ v3) ∧ (pif ((x1 : Int) == (IntKind.u64.wrap ((IntKind.u64.wrap (1 * 2 ^ (min (Int.toNat v3) 64))) - 1))) (B11 P x0 x3 H) (B10 P x0 x1 x2 x4 H))))
theorem q12 (P : PT) : QB Tryd.prog T0 59 o12 (cnd 17 (En 59 k6 (B11 P)) (En 59 k5 (B10 P))) k7 (B12 P) := fun _ _ _ _ _ _ _  => by kernel_rfl
noncomputable def o13 := ob Tryd.f52 [.l]
def B13 (P : PT) (x0 x1 : Int) (x2 x3 x4 : Value) (H : AHeap) : Prop :=
  B12 P x0 x1 x2 x3 x4 H
theorem q13 (P : PT) : QB Tryd.prog T0 59 o13 (En 59 k7 (B12 P)) k7 (B13 P) := fun _ _ _ _ _ _ _  => by kernel_rfl
noncomputable def code : Code := (.seq (.region 0 ⟨o13⟩ false) (.seq (.seq (.region 1 ⟨o12⟩ false) (.cond (.tmp 17) (.seq (.region 2 ⟨o11⟩ false) .ret) .skip)) (.seq (.region 3 ⟨o10⟩ false) (.seq (.seq (.region 4 ⟨o9⟩ false) (.block 0 (.loop (.seq (.region 5 ⟨o8⟩ false) (.seq (.cond (.tmp 29) .skip (.exit 0)) (.seq (.block 1 (.seq (.region 6 ⟨o7⟩ false) (.seq (.region 7 ⟨o6⟩ false) (.seq (.region 8 ⟨o5⟩ true) (.cond (.tmp 57) (.seq (.region 9 ⟨o4⟩ false) .ret) .skip))))) (.region 10 ⟨o3⟩ false))))))) (.seq (.region 11 ⟨o1⟩ false) .ret)))))
theorem body : Tryd.f52.body = some code := by kernel_rfl
theorem main (P : PT) : ∀ env H, (En 59 k7 (B13 P)) env H → AW Tryd.prog T0 code env H (mkQ (ret P) (fun _ _ _ => False) (ret P)) :=
  (r_seq (rB T0_ok (q13 P)) (r_seq (r_seq (rB T0_ok (q12 P)) (r_cond rfl (r_seq (rB T0_ok (q11 P)) r_ret) r_skip)) (r_seq (rB T0_ok (q10 P)) (r_seq (r_seq (rB T0_ok (q9 P)) (r_block (rL (l2 P) (fun N2 => (r_seq (rB T0_ok (q8 P N2)) (r_seq (r_cond rfl r_skip (r_exit (fun _ _ h => h))) (r_seq (r_block (r_seq (rB T0_ok (q7 P N2)) (r_seq (rB T0_ok (q6 P N2)) (r_seq (rD T0_ok mixed [(0, false), (1, false), (2, false), (3, false), (4, false), (5, false), (6, false), (7, false), (8, false), (9, false), (10, false), (11, false), (12, false), (13, false), (14, false), (15, false), (16, false), (17, false), (18, false)] (by kernel_rfl) (q5 P N2)) (r_cond rfl (r_seq (rB T0_ok (q4 P N2)) r_ret) r_skip))))) (rB T0_ok (q3 P N2))))))))) (r_seq (rB T0_ok (q1 P)) r_ret)))))
theorem ac (P : PT) (x0 x1 : Int) (x2 x3 x4 : Value) (H : AHeap) (h : B13 P x0 x1 x2 x3 x4 H) : AC Tryd.prog T0 52 [(Value.int .u64 x0), (Value.int .u64 x1), x2, x3, x4] H P :=
  r_fn T0_ok (c := code) (n := 59) Tryd.func52 body (by kernel_rfl) (main P) (En_mk (x0, x1, x2, x3, x4, ()) (by kernel_rfl) ⟨by kernel_rfl, by kernel_rfl, by kernel_rfl, by kernel_rfl, by kernel_rfl, trivial⟩ h)

end F52
-- math/bits.TrailingZeros64
namespace F53
noncomputable def ret (P : PT) : EP := retE T0 14 Tryd.f53 P
abbrev k0 : Sk := [(0,.i .u64)]
noncomputable def o1 := ob Tryd.f53 [.r,.r,.l]
def B1 (P : PT) (x0 : Int) (H : AHeap) : Prop :=
  ((0 : Int) ≤ 58) ∧ (bndK (Int.fdiv (IntKind.u64.wrap ((IntKind.u64.wrap (BitVec.ofInt 64 x0 &&& BitVec.ofInt 64 (IntKind.u64.wrap (0 - x0))).toNat) * 285870213051353865)) (2 ^ (min (Int.toNat 58) 64))) 64 (ldI .u8 H 0 (offAt 0 (Int.fdiv (IntKind.u64.wrap ((IntKind.u64.wrap (BitVec.ofInt 64 x0 &&& BitVec.ofInt 64 (IntKind.u64.wrap (0 - x0))).toNat) * 285870213051353865)) (2 ^ (min (Int.toNat 58) 64))) 1) (fun v1 => P (Value.int .i64 (IntKind.i64.wrap v1)) H)))
theorem p1 (u : Nat → Value) (x0 : Int) (H : AHeap) (Q : EP) : aOps Tryd.prog T0 o1 (o1.take 6) [.int .u64 x0, u 1, u 2, u 3, u 4, u 5, u 6, u 7, u 8, u 9, u 10, u 11, u 12, u 13] H Q = ((0 : Int) ≤ 58 ∧ Q [.int .u64 x0, u 1, u 2, u 3, u 4, .int .u64 x0, .int .u64 x0, .int .u64 (IntKind.u64.wrap (0 - x0)), .int .u64 (IntKind.u64.wrap (BitVec.ofInt 64 x0 &&& BitVec.ofInt 64 (IntKind.u64.wrap (0 - x0))).toNat), .int .u64 (IntKind.u64.wrap ((IntKind.u64.wrap (BitVec.ofInt 64 x0 &&& BitVec.ofInt 64 (IntKind.u64.wrap (0 - x0))).toNat) * 285870213051353865)), .int .u64 (Int.fdiv (IntKind.u64.wrap ((IntKind.u64.wrap (BitVec.ofInt 64 x0 &&& BitVec.ofInt 64 (IntKind.u64.wrap (0 - x0))).toNat) * 285870213051353865)) (2 ^ (min (Int.toNat 58) 64))), u 11, u 12, u 13] H) := by kernel_rfl
theorem p2 (P : PT) (u : Nat → Value) (a b c d e : Value) (n : Int) (H : AHeap) : aOps Tryd.prog T0 o1 (o1.drop 6) [a, u 1, u 2, u 3, u 4, a, b, c, d, e, .int .u64 n, u 11, u 12, u 13] H (ret P) = bndK n 64 (ldI .u8 H 0 (offAt 0 n 1) (fun v1 => P (Value.int .i64 (IntKind.i64.wrap v1)) H)) := by kernel_rfl
theorem q1 (P : PT) : QB Tryd.prog T0 14 o1 (ret P) k0 (B1 P) := fun u x0 H => (aOps_cut Tryd.prog T0 o1 o1 6 _ H _).trans ((p1 u x0 H _).trans (congrArg _ (p2 P u _ _ _ _ _ _ H)))
abbrev k1 : Sk := []
noncomputable def o2 := ob Tryd.f53 [.r,.l,.r,.l,.l]
def B2 (P : PT) (H : AHeap) : Prop :=
  P (Value.int .i64 64) H
theorem q2 (P : PT) : QB Tryd.prog T0 14 o2 (ret P) k1 (B2 P) := fun _ _  => by kernel_rfl
noncomputable def o3 := ob Tryd.f53 [.r,.l,.l]
def B3 (P : PT) (x0 : Int) (H : AHeap) : Prop :=
  pif ((x0 : Int) == 0) (B2 P H) (B1 P x0 H)
theorem q3 (P : PT) : QB Tryd.prog T0 14 o3 (cnd 4 (En 14 k1 (B2 P)) (En 14 k0 (B1 P))) k0 (B3 P) := fun _ _ _  => by kernel_rfl
noncomputable def o4 := ob Tryd.f53 [.l]
def B4 (P : PT) (x0 : Int) (H : AHeap) : Prop :=
  B3 P x0 H
theorem q4 (P : PT) : QB Tryd.prog T0 14 o4 (En 14 k0 (B3 P)) k0 (B4 P) := fun _ _ _  => by kernel_rfl
noncomputable def code : Code := (.seq (.region 0 ⟨o4⟩ false) (.seq (.seq (.region 1 ⟨o3⟩ false) (.cond (.tmp 4) (.seq (.region 2 ⟨o2⟩ false) .ret) .skip)) (.seq (.region 3 ⟨o1⟩ false) .ret)))
theorem body : Tryd.f53.body = some code := by kernel_rfl
theorem main (P : PT) : ∀ env H, (En 14 k0 (B4 P)) env H → AW Tryd.prog T0 code env H (mkQ (ret P) (fun _ _ _ => False) (ret P)) :=
  (r_seq (rB T0_ok (q4 P)) (r_seq (r_seq (rB T0_ok (q3 P)) (r_cond rfl (r_seq (rB T0_ok (q2 P)) r_ret) r_skip)) (r_seq (rB T0_ok (q1 P)) r_ret)))
theorem ac (P : PT) (x0 : Int) (H : AHeap) (h : B4 P x0 H) : AC Tryd.prog T0 53 [(Value.int .u64 x0)] H P :=
  r_fn T0_ok (c := code) (n := 14) Tryd.func53 body (by kernel_rfl) (main P) (En_mk (x0, ()) (by kernel_rfl) ⟨by kernel_rfl, trivial⟩ h)

end F53
-- (loop.example/g01329/impl.Graph).at
namespace F54
noncomputable def ret (P : PT) : EP := retE T0 25 Tryd.f54 P
abbrev k0 : Sk := [(5,.v)]
noncomputable def o1 := ob Tryd.f54 [.r,.r,.r,.l]
def B1 (P : PT) (x5 : Value) (H : AHeap) : Prop :=
  P x5 H
theorem q1 (P : PT) : QB Tryd.prog T0 25 o1 (ret P) k0 (B1 P) := fun _ _ _  => by kernel_rfl
abbrev k1 : Sk := [(1,.i .i64),(5,.v),(9,.v),(10,.i .i64),(11,.i .i64)]
noncomputable def o3 := ob Tryd.f54 [.r,.r,.l,.r,.l,.l,.r,.r,.r]
def B3 (P : PT) (N2 : NTy k1 Pr) (x1 : Int) (x5 x9 : Value) (x10 x11 : Int) (H : AHeap) : Prop :=
  N2 x1 x5 x9 x10 (IntKind.i64.wrap (x11 + 1)) H
theorem q3 (P : PT) (N2 : NTy k1 Pr) : QB Tryd.prog T0 25 o3 (En 25 k1 N2) k1 (B3 P N2) := fun _ _ _ _ _ _ _  => by kernel_rfl
abbrev k2 : Sk := [(1,.i .i64),(5,.v),(6,.i .i64),(9,.v),(10,.i .i64),(11,.i .i64)]
noncomputable def o4 := ob Tryd.f54 [.r,.r,.l,.r,.l,.l,.r,.r,.l,.l,.r,.r,.l]
def B4 (P : PT) (N2 : NTy k1 Pr) (x1 : Int) (x5 : Value) (x6 : Int) (x9 : Value) (x10 x11 : Int) (H : AHeap) : Prop :=
  newK H [(Value.int .i64 x6)] 2 (fun b1 H2 => apK T0 2 H2 x5 (Value.slice (some ⟨b1, 0, none⟩) 1 (1 + 1)) (fun v3 H4 => B3 P N2 x1 v3 x9 x10 x11 H4))
theorem q4 (P : PT) (N2 : NTy k1 Pr) : QB Tryd.prog T0 25 o4 (En 25 k1 (B3 P N2)) k2 (B4 P N2) := fun _ _ _ _ _ _ _ _  => by kernel_rfl
abbrev k3 : Sk := [(1,.i .i64),(5,.v),(6,.i .i64),(7,.x),(9,.v),(10,.i .i64),(11,.i .i64)]
noncomputable def o5 := ob Tryd.f54 [.r,.r,.l,.r,.l,.l,.r,.r,.l,.l,.r,.l]
def B5 (P : PT) (N2 : NTy k1 Pr) (x1 : Int) (x5 : Value) (x6 : Int) (x7 : Nat) (x9 : Value) (x10 x11 : Int) (H : AHeap) : Prop :=
  ldI .i64 H x7 0 (fun v1 => ldI .i64 H x7 1 (fun v2 => AC Tryd.prog T0 73 [(Value.agg ⟨[(Value.int .i64 v1), (Value.int .i64 v2)]⟩), (Value.int .i64 x1)] H (fun v3 H4 => asB v3 (fun v5 => pif v5 (B4 P N2 x1 x5 x6 x9 x10 x11 H4) (B3 P N2 x1 x5 x9 x10 x11 H4)))))
theorem q5 (P : PT) (N2 : NTy k1 Pr) : QB Tryd.prog T0 25 o5 (cnd 18 (En 25 k2 (B4 P N2)) (En 25 k1 (B3 P N2))) k3 (B5 P N2) := fun _ _ _ _ _ _ _ _ _  => by kernel_rfl
noncomputable def o6 := ob Tryd.f54 [.r,.r,.l,.r,.l,.l,.r,.r,.l,.l,.l]
def B6 (P : PT) (N2 : NTy k1 Pr) (x1 : Int) (x5 x9 : Value) (x10 x11 : Int) (H : AHeap) : Prop :=
  idxK x9 x11 2 (fun b1 o2 => ldI .i64 H b1 o2 (fun v3 => ldI .i64 H b1 (o2 + 1) (fun v4 => newK H [(Value.int .i64 0), (Value.int .i64 0)] 74 (fun b5 H6 => stK H6 b5 0 [(Value.int .i64 v3), (Value.int .i64 v4)] (fun H7 => B5 P N2 x1 x5 x11 b5 x9 x10 x11 H7)))))
theorem q6 (P : PT) (N2 : NTy k1 Pr) : QB Tryd.prog T0 25 o6 (En 25 k3 (B5 P N2)) k1 (B6 P N2) := fun _ _ _ _ _ _ _  => by kernel_rfl
noncomputable def o7 := ob Tryd.f54 [.r,.r,.l,.r,.l,.l,.l]
def B7 (P : PT) (N2 : NTy k1 Pr) (x1 : Int) (x5 x9 : Value) (x10 x11 : Int) (H : AHeap) : Prop :=
  pif (decide ((x11 : Int) < x10)) (B6 P N2 x1 x5 x9 x10 x11 H) (B1 P x5 H)
theorem q7 (P : PT) (N2 : NTy k1 Pr) : QB Tryd.prog T0 25 o7 (cnd 12 (En 25 k1 (B6 P N2)) (En 25 k0 (B1 P))) k1 (B7 P N2) := fun _ _ _ _ _ _ _  => by kernel_rfl
def L2 (P : PT) (x1 : Int) (x5 x9 : Value) (x10 x11 : Int) (H : AHeap) : Prop :=
  ∃ (I : NTy k1 Pr) (μ : NTy k1 (AHeap → Nat)), I x1 x5 x9 x10 x11 H ∧ ∀ y1 y5 y9 y10 y11 G, I y1 y5 y9 y10 y11 G → B7 P (fun z1 z5 z9 z10 z11 G' => I z1 z5 z9 z10 z11 G' ∧ μ z1 z5 z9 z10 z11 G' < μ y1 y5 y9 y10 y11 G) y1 y5 y9 y10 y11 G
theorem l2 (P : PT) : LQ k1 (L2 P) (B7 P) := fun ⟨_,_,_,_,_,_⟩ _ ⟨I, μ, h0, hI⟩ => ⟨apT _ I, apT _ μ, h0, fun ⟨_,_,_,_,_,_⟩ _ h => hI _ _ _ _ _ _  h⟩
abbrev k4 : Sk := [(1,.i .i64),(2,.x),(5,.v)]
noncomputable def o8 := ob Tryd.f54 [.r,.r,.l,.l]
def B8 (P : PT) (x1 : Int) (x2 : Nat) (x5 : Value) (H : AHeap) : Prop :=
  ld1 H x2 1 (fun v1 => lenK v1 (fun n2 => L2 P x1 x5 v1 (n2 : Int) 0 H))
theorem q8 (P : PT) : QB Tryd.prog T0 25 o8 (En 25 k1 (L2 P)) k4 (B8 P) := fun _ _ _ _ _  => by kernel_rfl
abbrev k5 : Sk := [(1,.i .i64),(2,.x)]
noncomputable def o9 := ob Tryd.f54 [.r,.l]
def B9 (P : PT) (x1 : Int) (x2 : Nat) (H : AHeap) : Prop :=
  B8 P x1 x2 (Value.slice none 0 0) H
theorem q9 (P : PT) : QB Tryd.prog T0 25 o9 (En 25 k4 (B8 P)) k5 (B9 P) := fun _ _ _ _  => by kernel_rfl
abbrev k6 : Sk := [(0,.g [.i,.v]),(1,.i .i64)]
noncomputable def o10 := ob Tryd.f54 [.l]
def B10 (P : PT) (x0a : Int) (x0b : Value) (x1 : Int) (H : AHeap) : Prop :=
  newK H [(Value.int .i64 x0a), x0b] 31 (fun b1 H2 => B9 P x1 b1 H2)
theorem q10 (P : PT) : QB Tryd.prog T0 25 o10 (En 25 k5 (B9 P)) k6 (B10 P) := fun _ _ _ _ _  => by kernel_rfl
noncomputable def code : Code := (.seq (.region 0 ⟨o10⟩ false) (.seq (.region 1 ⟨o9⟩ false) (.seq (.seq (.region 2 ⟨o8⟩ false) (.block 0 (.loop (.seq (.region 3 ⟨o7⟩ false) (.seq (.cond (.tmp 12) .skip (.exit 0)) (.seq (.block 1 (.seq (.region 4 ⟨o6⟩ false) (.seq (.region 5 ⟨o5⟩ false) (.cond (.tmp 18) (.region 6 ⟨o4⟩ false) .skip)))) (.region 7 ⟨o3⟩ false))))))) (.seq (.region 8 ⟨o1⟩ false) .ret))))
theorem body : Tryd.f54.body = some code := by kernel_rfl
theorem main (P : PT) : ∀ env H, (En 25 k6 (B10 P)) env H → AW Tryd.prog T0 code env H (mkQ (ret P) (fun _ _ _ => False) (ret P)) :=
  (r_seq (rB T0_ok (q10 P)) (r_seq (rB T0_ok (q9 P)) (r_seq (r_seq (rB T0_ok (q8 P)) (r_block (rL (l2 P) (fun N2 => (r_seq (rB T0_ok (q7 P N2)) (r_seq (r_cond rfl r_skip (r_exit (fun _ _ h => h))) (r_seq (r_block (r_seq (rB T0_ok (q6 P N2)) (r_seq (rB T0_ok (q5 P N2)) (r_cond rfl (rB T0_ok (q4 P N2)) r_skip)))) (rB T0_ok (q3 P N2))))))))) (r_seq (rB T0_ok (q1 P)) r_ret))))
theorem ac (P : PT) (x0a : Int) (x0b : Value) (x1 : Int) (H : AHeap) (h : B10 P x0a x0b x1 H) : AC Tryd.prog T0 54 [(Value.agg ⟨[(Value.int .i64 x0a), x0b]⟩), (Value.int .i64 x1)] H P :=
  r_fn T0_ok (c := code) (n := 25) Tryd.func54 body (by kernel_rfl) (main P) (En_mk (x0a, x0b, x1, ()) (by kernel_rfl) ⟨by kernel_rfl, by kernel_rfl, trivial⟩ h)

end F54
-- (loop.example/g01329/impl.Edge).other
namespace F55
noncomputable def ret (P : PT) : EP := retE T0 12 Tryd.f55 P
abbrev k0 : Sk := [(1,.i .i64),(2,.x)]
noncomputable def o1 := ob Tryd.f55 [.r,.l]
def B1 (P : PT) (x1 : Int) (x2 : Nat) (H : AHeap) : Prop :=
  ldI .i64 H x2 0 (fun v1 => ldI .i64 H x2 1 (fun v2 => P (Value.int .i64 (IntKind.i64.wrap ((IntKind.i64.wrap (v1 + v2)) - x1))) H))
theorem q1 (P : PT) : QB Tryd.prog T0 12 o1 (ret P) k0 (B1 P) := fun _ _ _ _  => by kernel_rfl
abbrev k1 : Sk := [(0,.g [.i,.i]),(1,.i .i64)]
noncomputable def o2 := ob Tryd.f55 [.l]
def B2 (P : PT) (x0a x0b x1 : Int) (H : AHeap) : Prop :=
  newK H [(Value.int .i64 x0a), (Value.int .i64 x0b)] 74 (fun b1 H2 => B1 P x1 b1 H2)
theorem q2 (P : PT) : QB Tryd.prog T0 12 o2 (En 12 k0 (B1 P)) k1 (B2 P) := fun _ _ _ _ _  => by kernel_rfl
noncomputable def code : Code := (.seq (.region 0 ⟨o2⟩ false) (.seq (.region 1 ⟨o1⟩ false) .ret))
theorem body : Tryd.f55.body = some code := by kernel_rfl
theorem main (P : PT) : ∀ env H, (En 12 k1 (B2 P)) env H → AW Tryd.prog T0 code env H (mkQ (ret P) (fun _ _ _ => False) (ret P)) :=
  (r_seq (rB T0_ok (q2 P)) (r_seq (rB T0_ok (q1 P)) r_ret))
theorem ac (P : PT) (x0a x0b x1 : Int) (H : AHeap) (h : B2 P x0a x0b x1 H) : AC Tryd.prog T0 55 [(Value.agg ⟨[(Value.int .i64 x0a), (Value.int .i64 x0b)]⟩), (Value.int .i64 x1)] H P :=
  r_fn T0_ok (c := code) (n := 12) Tryd.func55 body (by kernel_rfl) (main P) (En_mk (x0a, x0b, x1, ()) (by kernel_rfl) ⟨by kernel_rfl, by kernel_rfl, trivial⟩ h)

end F55
-- loop.example/g01329/laws.eqEdge
namespace F56
noncomputable def ret (P : PT) : EP := retE T0 17 Tryd.f56 P
abbrev k0 : Sk := []
noncomputable def o1 := ob Tryd.f56 [.r,.r,.l]
def B1 (P : PT) (H : AHeap) : Prop :=
  P (Value.bool true) H
theorem q1 (P : PT) : QB Tryd.prog T0 17 o1 (ret P) k0 (B1 P) := fun _ _  => by kernel_rfl
abbrev k1 : Sk := [(2,.x),(3,.x),(5,.i .i64)]
noncomputable def o3 := ob Tryd.f56 [.r,.l,.r,.l,.l,.r,.r]
def B3 (P : PT) (N2 : NTy k1 Pr) (x2 x3 : Nat) (x5 : Int) (H : AHeap) : Prop :=
  N2 x2 x3 (IntKind.i64.wrap (x5 + 1)) H
theorem q3 (P : PT) (N2 : NTy k1 Pr) : QB Tryd.prog T0 17 o3 (En 17 k1 N2) k1 (B3 P N2) := fun _ _ _ _ _  => by kernel_rfl
noncomputable def o4 := ob Tryd.f56 [.r,.l,.r,.l,.l,.r,.l,.l,.r,.l,.l]
def B4 (P : PT) (N2 : NTy k1 Pr) (H : AHeap) : Prop :=
  P (Value.bool false) H
theorem q4 (P : PT) (N2 : NTy k1 Pr) : QB Tryd.prog T0 17 o4 (ret P) k0 (B4 P N2) := fun _ _  => by kernel_rfl
noncomputable def o5 := ob Tryd.f56 [.r,.l,.r,.l,.l,.r,.l,.l,.l]
def B5 (P : PT) (N2 : NTy k1 Pr) (x2 x3 : Nat) (x5 : Int) (H : AHeap) : Prop :=
  bndK x5 2 (ldI .i64 H x2 (0 + Int.toNat x5 * 1) (fun v1 => bndK x5 2 (ldI .i64 H x3 (0 + Int.toNat x5 * 1) (fun v2 => pif ((v1 : Int) != v2) (B4 P N2 H) (B3 P N2 x2 x3 x5 H)))))
theorem q5 (P : PT) (N2 : NTy k1 Pr) : QD Tryd.prog T0 17 o5 [(0, false), (1, false), (2, false), (3, false), (4, false), (5, false), (6, false)] (cnd 16 (En 17 k0 (B4 P N2)) (En 17 k1 (B3 P N2))) k1 (B5 P N2) := fun _ _ _ _ _  => by kernel_rfl
noncomputable def o6 := ob Tryd.f56 [.r,.l,.r,.l,.l,.l,.l]
def B6 (P : PT) (N2 : NTy k1 Pr) (x2 x3 : Nat) (x5 : Int) (H : AHeap) : Prop :=
  pif (decide ((x5 : Int) < 2)) (B5 P N2 x2 x3 x5 H) (B1 P H)
theorem q6 (P : PT) (N2 : NTy k1 Pr) : QB Tryd.prog T0 17 o6 (cnd 7 (En 17 k1 (B5 P N2)) (En 17 k0 (B1 P))) k1 (B6 P N2) := fun _ _ _ _ _  => by kernel_rfl
def L2 (P : PT) (x2 x3 : Nat) (x5 : Int) (H : AHeap) : Prop :=
  ∃ (I : NTy k1 Pr) (μ : NTy k1 (AHeap → Nat)), I x2 x3 x5 H ∧ ∀ y2 y3 y5 G, I y2 y3 y5 G → B6 P (fun z2 z3 z5 G' => I z2 z3 z5 G' ∧ μ z2 z3 z5 G' < μ y2 y3 y5 G) y2 y3 y5 G
theorem l2 (P : PT) : LQ k1 (L2 P) (B6 P) := fun ⟨_,_,_,_⟩ _ ⟨I, μ, h0, hI⟩ => ⟨apT _ I, apT _ μ, h0, fun ⟨_,_,_,_⟩ _ h => hI _ _ _ _  h⟩
abbrev k2 : Sk := [(2,.x),(3,.x)]
noncomputable def o7 := ob Tryd.f56 [.r,.l,.l]
def B7 (P : PT) (x2 x3 : Nat) (H : AHeap) : Prop :=
  L2 P x2 x3 0 H
theorem q7 (P : PT) : QB Tryd.prog T0 17 o7 (En 17 k1 (L2 P)) k2 (B7 P) := fun _ _ _ _  => by kernel_rfl
abbrev k3 : Sk := [(0,.g [.i,.i]),(1,.g [.i,.i])]
noncomputable def o8 := ob Tryd.f56 [.l]
def B8 (P : PT) (x0a x0b x1a x1b : Int) (H : AHeap) : Prop :=
  newK H [(Value.int .i64 x0a), (Value.int .i64 x0b)] 74 (fun b1 H2 => newK H2 [(Value.int .i64 x1a), (Value.int .i64 x1b)] 74 (fun b3 H4 => B7 P b1 b3 H4))
theorem q8 (P : PT) : QB Tryd.prog T0 17 o8 (En 17 k2 (B7 P)) k3 (B8 P) := fun _ _ _ _ _ _  => by kernel_rfl
noncomputable def code : Code := (.seq (.region 0 ⟨o8⟩ false) (.seq (.seq (.region 1 ⟨o7⟩ false) (.block 0 (.loop (.seq (.seq (.region 2 ⟨o6⟩ false) (.cond (.tmp 7) .skip (.exit 0))) (.seq (.block 1 (.seq (.region 4 ⟨o5⟩ true) (.cond (.tmp 16) (.seq (.region 5 ⟨o4⟩ false) .ret) .skip))) (.region 3 ⟨o3⟩ false)))))) (.seq (.region 6 ⟨o1⟩ false) .ret)))
theorem body : Tryd.f56.body = some code := by kernel_rfl
theorem main (P : PT) : ∀ env H, (En 17 k3 (B8 P)) env H → AW Tryd.prog T0 code env H (mkQ (ret P) (fun _ _ _ => False) (ret P)) :=
  (r_seq (rB T0_ok (q8 P)) (r_seq (r_seq (rB T0_ok (q7 P)) (r_block (rL (l2 P) (fun N2 => (r_seq (r_seq (rB T0_ok (q6 P N2)) (r_cond rfl r_skip (r_exit (fun _ _ h => h)))) (r_seq (r_block (r_seq (rD T0_ok mixed [(0, false), (1, false), (2, false), (3, false), (4, false), (5, false), (6, false)] (by kernel_rfl) (q5 P N2)) (r_cond rfl (r_seq (rB T0_ok (q4 P N2)) r_ret) r_skip))) (rB T0_ok (q3 P N2)))))))) (r_seq (rB T0_ok (q1 P)) r_ret)))
theorem ac (P : PT) (x0a x0b x1a x1b : Int) (H : AHeap) (h : B8 P x0a x0b x1a x1b H) : AC Tryd.prog T0 56 [(Value.agg ⟨[(Value.int .i64 x0a), (Value.int .i64 x0b)]⟩), (Value.agg ⟨[(Value.int .i64 x1a), (Value.int .i64 x1b)]⟩)] H P :=
  r_fn T0_ok (c := code) (n := 17) Tryd.func56 body (by kernel_rfl) (main P) (En_mk (x0a, x0b, x1a, x1b, ()) (by kernel_rfl) ⟨by kernel_rfl, by kernel_rfl, trivial⟩ h)

end F56
-- slices.IndexFunc[[]loop.example/g01329/impl.set,loop.example/g01329/impl.set]
namespace F58
noncomputable def ret (P : PT) : EP := retE T0 19 Tryd.f58 P
abbrev k0 : Sk := []
noncomputable def o1 := ob Tryd.f58 [.r,.r,.l]
def B1 (P : PT) (H : AHeap) : Prop :=
  P (Value.int .i64 (-1)) H
theorem q1 (P : PT) : QB Tryd.prog T0 19 o1 (ret P) k0 (B1 P) := fun _ _  => by kernel_rfl
abbrev k1 : Sk := [(0,.v),(1,.v),(7,.i .i64),(8,.i .i64)]
noncomputable def o3 := ob Tryd.f58 [.r,.l,.r,.l,.l,.r,.r,.r]
def B3 (P : PT) (N2 : NTy k1 Pr) (x0 x1 : Value) (x7 x8 : Int) (H : AHeap) : Prop :=
  N2 x0 x1 x7 (IntKind.i64.wrap (x8 + 1)) H
theorem q3 (P : PT) (N2 : NTy k1 Pr) : QB Tryd.prog T0 19 o3 (En 19 k1 N2) k1 (B3 P N2) := fun _ _ _ _ _ _  => by kernel_rfl
abbrev k2 : Sk := [(5,.i .i64)]
noncomputable def o4 := ob Tryd.f58 [.r,.l,.r,.l,.l,.r,.r,.l,.l,.r,.r,.l,.l]
def B4 (P : PT) (N2 : NTy k1 Pr) (x5 : Int) (H : AHeap) : Prop :=
  P (Value.int .i64 x5) H
theorem q4 (P : PT) (N2 : NTy k1 Pr) : QB Tryd.prog T0 19 o4 (ret P) k2 (B4 P N2) := fun _ _ _  => by kernel_rfl
abbrev k3 : Sk := [(0,.v),(1,.v),(5,.i .i64),(7,.i .i64),(8,.i .i64)]
noncomputable def o5 := ob Tryd.f58 [.r,.l,.r,.l,.l,.r,.r,.l,.l,.r,.l]
def B5 (P : PT) (N2 : NTy k1 Pr) (x0 x1 : Value) (x5 x7 x8 : Int) (H : AHeap) : Prop :=
  idxK x0 x5 1 (fun b1 o2 => ldI .u64 H b1 o2 (fun v3 => callV Tryd.prog T0 x1 [(Value.int .u64 v3)] H (fun v4 H5 => asB v4 (fun v6 => pif v6 (B4 P N2 x5 H5) (B3 P N2 x0 x1 x7 x8 H5)))))
theorem q5 (P : PT) (N2 : NTy k1 Pr) : QB Tryd.prog T0 19 o5 (cnd 16 (En 19 k2 (B4 P N2)) (En 19 k1 (B3 P N2))) k3 (B5 P N2) := fun _ _ _ _ _ _ _  => by kernel_rfl
noncomputable def o6 := ob Tryd.f58 [.r,.l,.r,.l,.l,.r,.r,.l,.l,.l]
def B6 (P : PT) (N2 : NTy k1 Pr) (x0 x1 : Value) (x7 x8 : Int) (H : AHeap) : Prop :=
  B5 P N2 x0 x1 x8 x7 x8 H
theorem q6 (P : PT) (N2 : NTy k1 Pr) : QB Tryd.prog T0 19 o6 (En 19 k3 (B5 P N2)) k1 (B6 P N2) := fun _ _ _ _ _ _  => by kernel_rfl
noncomputable def o7 := ob Tryd.f58 [.r,.l,.r,.l,.l,.l]
def B7 (P : PT) (N2 : NTy k1 Pr) (x0 x1 : Value) (x7 x8 : Int) (H : AHeap) : Prop :=
  pif (decide ((x8 : Int) < x7)) (B6 P N2 x0 x1 x7 x8 H) (B1 P H)
theorem q7 (P : PT) (N2 : NTy k1 Pr) : QB Tryd.prog T0 19 o7 (cnd 9 (En 19 k1 (B6 P N2)) (En 19 k0 (B1 P))) k1 (B7 P N2) := fun _ _ _ _ _ _  => by kernel_rfl
def L2 (P : PT) (x0 x1 : Value) (x7 x8 : Int) (H : AHeap) : Prop :=
  ∃ (I : NTy k1 Pr) (μ : NTy k1 (AHeap → Nat)), I x0 x1 x7 x8 H ∧ ∀ y0 y1 y7 y8 G, I y0 y1 y7 y8 G → B7 P (fun z0 z1 z7 z8 G' => I z0 z1 z7 z8 G' ∧ μ z0 z1 z7 z8 G' < μ y0 y1 y7 y8 G) y0 y1 y7 y8 G
theorem l2 (P : PT) : LQ k1 (L2 P) (B7 P) := fun ⟨_,_,_,_,_⟩ _ ⟨I, μ, h0, hI⟩ => ⟨apT _ I, apT _ μ, h0, fun ⟨_,_,_,_,_⟩ _ h => hI _ _ _ _ _  h⟩
abbrev k4 : Sk := [(0,.v),(1,.v)]
noncomputable def o8 := ob Tryd.f58 [.r,.l,.l]
def B8 (P : PT) (x0 x1 : Value) (H : AHeap) : Prop :=
  lenK x0 (fun n1 => L2 P x0 x1 (n1 : Int) 0 H)
theorem q8 (P : PT) : QB Tryd.prog T0 19 o8 (En 19 k1 (L2 P)) k4 (B8 P) := fun _ _ _ _  => by kernel_rfl
noncomputable def o9 := ob Tryd.f58 [.l]
def B9 (P : PT) (x0 x1 : Value) (H : AHeap) : Prop :=
  B8 P x0 x1 H
theorem q9 (P : PT) : QB Tryd.prog T0 19 o9 (En 19 k4 (B8 P)) k4 (B9 P) := fun _ _ _ _  => by kernel_rfl
noncomputable def code : Code := (.seq (.region 0 ⟨o9⟩ false) (.seq (.seq (.region 1 ⟨o8⟩ false) (.block 0 (.loop (.seq (.region 2 ⟨o7⟩ false) (.seq (.cond (.tmp 9) .skip (.exit 0)) (.seq (.block 1 (.seq (.region 3 ⟨o6⟩ false) (.seq (.region 4 ⟨o5⟩ false) (.cond (.tmp 16) (.seq (.region 5 ⟨o4⟩ false) .ret) .skip)))) (.region 6 ⟨o3⟩ false))))))) (.seq (.region 7 ⟨o1⟩ false) .ret)))
theorem body : Tryd.f58.body = some code := by kernel_rfl
theorem main (P : PT) : ∀ env H, (En 19 k4 (B9 P)) env H → AW Tryd.prog T0 code env H (mkQ (ret P) (fun _ _ _ => False) (ret P)) :=
  (r_seq (rB T0_ok (q9 P)) (r_seq (r_seq (rB T0_ok (q8 P)) (r_block (rL (l2 P) (fun N2 => (r_seq (rB T0_ok (q7 P N2)) (r_seq (r_cond rfl r_skip (r_exit (fun _ _ h => h))) (r_seq (r_block (r_seq (rB T0_ok (q6 P N2)) (r_seq (rB T0_ok (q5 P N2)) (r_cond rfl (r_seq (rB T0_ok (q4 P N2)) r_ret) r_skip)))) (rB T0_ok (q3 P N2))))))))) (r_seq (rB T0_ok (q1 P)) r_ret)))
theorem ac (P : PT) (x0 x1 : Value) (H : AHeap) (h : B9 P x0 x1 H) : AC Tryd.prog T0 58 [x0, x1] H P :=
  r_fn T0_ok (c := code) (n := 19) Tryd.func58 body (by kernel_rfl) (main P) (En_mk (x0, x1, ()) (by kernel_rfl) ⟨by kernel_rfl, by kernel_rfl, trivial⟩ h)

end F58
-- loop.example/g01329/spec.l04Odd
namespace F59
noncomputable def ret (P : PT) : EP := retE T0 20 Tryd.f59 P
abbrev k0 : Sk := [(3,.i .i64)]
noncomputable def o1 := ob Tryd.f59 [.r,.r,.r,.l]
def B1 (P : PT) (x3 : Int) (H : AHeap) : Prop :=
  P (Value.int .i64 x3) H
theorem q1 (P : PT) : QB Tryd.prog T0 20 o1 (ret P) k0 (B1 P) := fun _ _ _  => by kernel_rfl
abbrev k1 : Sk := [(0,.v),(3,.i .i64),(4,.i .i64)]
noncomputable def o3 := ob Tryd.f59 [.r,.r,.l,.r,.l,.l,.r,.r]
def B3 (P : PT) (N2 : NTy k1 Pr) (x0 : Value) (x3 x4 : Int) (H : AHeap) : Prop :=
  N2 x0 x3 (IntKind.i64.wrap (x4 + 1)) H
theorem q3 (P : PT) (N2 : NTy k1 Pr) : QB Tryd.prog T0 20 o3 (En 20 k1 N2) k1 (B3 P N2) := fun _ _ _ _ _  => by kernel_rfl
noncomputable def o4 := ob Tryd.f59 [.r,.r,.l,.r,.l,.l,.r,.l,.l]
def B4 (P : PT) (N2 : NTy k1 Pr) (x0 : Value) (x3 x4 : Int) (H : AHeap) : Prop :=
  idxK x0 x4 1 (fun b1 o2 => ld1 H b1 o2 (fun v3 => lenK v3 (fun n4 => B3 P N2 x0 (IntKind.i64.wrap (x3 + (Int.tmod (n4 : Int) 2))) x4 H)))
theorem q4 (P : PT) (N2 : NTy k1 Pr) : QB Tryd.prog T0 20 o4 (En 20 k1 (B3 P N2)) k1 (B4 P N2) := fun _ _ _ _ _  => by kernel_rfl
noncomputable def o5 := ob Tryd.f59 [.r,.r,.l,.r,.l,.l,.l,.l]
def B5 (P : PT) (N2 : NTy k1 Pr) (x0 : Value) (x3 x4 : Int) (H : AHeap) : Prop :=
  lenK x0 (fun n1 => pif (decide ((x4 : Int) < (n1 : Int))) (B4 P N2 x0 x3 x4 H) (B1 P x3 H))
theorem q5 (P : PT) (N2 : NTy k1 Pr) : QB Tryd.prog T0 20 o5 (cnd 8 (En 20 k1 (B4 P N2)) (En 20 k0 (B1 P))) k1 (B5 P N2) := fun _ _ _ _ _  => by kernel_rfl
def L2 (P : PT) (x0 : Value) (x3 x4 : Int) (H : AHeap) : Prop :=
  ∃ (I : NTy k1 Pr) (μ : NTy k1 (AHeap → Nat)), I x0 x3 x4 H ∧ ∀ y0 y3 y4 G, I y0 y3 y4 G → B5 P (fun z0 z3 z4 G' => I z0 z3 z4 G' ∧ μ z0 z3 z4 G' < μ y0 y3 y4 G) y0 y3 y4 G
theorem l2 (P : PT) : LQ k1 (L2 P) (B5 P) := fun ⟨_,_,_,_⟩ _ ⟨I, μ, h0, hI⟩ => ⟨apT _ I, apT _ μ, h0, fun ⟨_,_,_,_⟩ _ h => hI _ _ _ _  h⟩
abbrev k2 : Sk := [(0,.v),(3,.i .i64)]
noncomputable def o6 := ob Tryd.f59 [.r,.r,.l,.l]
def B6 (P : PT) (x0 : Value) (x3 : Int) (H : AHeap) : Prop :=
  L2 P x0 x3 0 H
theorem q6 (P : PT) : QB Tryd.prog T0 20 o6 (En 20 k1 (L2 P)) k2 (B6 P) := fun _ _ _ _  => by kernel_rfl
abbrev k3 : Sk := [(0,.v)]
noncomputable def o7 := ob Tryd.f59 [.r,.l]
def B7 (P : PT) (x0 : Value) (H : AHeap) : Prop :=
  B6 P x0 0 H
theorem q7 (P : PT) : QB Tryd.prog T0 20 o7 (En 20 k2 (B6 P)) k3 (B7 P) := fun _ _ _  => by kernel_rfl
noncomputable def o8 := ob Tryd.f59 [.l]
def B8 (P : PT) (x0 : Value) (H : AHeap) : Prop :=
  B7 P x0 H
theorem q8 (P : PT) : QB Tryd.prog T0 20 o8 (En 20 k3 (B7 P)) k3 (B8 P) := fun _ _ _  => by kernel_rfl
noncomputable def code : Code := (.seq (.region 0 ⟨o8⟩ false) (.seq (.region 1 ⟨o7⟩ false) (.seq (.seq (.region 2 ⟨o6⟩ false) (.block 0 (.loop (.seq (.seq (.region 3 ⟨o5⟩ false) (.cond (.tmp 8) .skip (.exit 0))) (.seq (.block 1 (.region 5 ⟨o4⟩ false)) (.region 4 ⟨o3⟩ false)))))) (.seq (.region 6 ⟨o1⟩ false) .ret))))
theorem body : Tryd.f59.body = some code := by kernel_rfl
theorem main (P : PT) : ∀ env H, (En 20 k3 (B8 P)) env H → AW Tryd.prog T0 code env H (mkQ (ret P) (fun _ _ _ => False) (ret P)) :=
  (r_seq (rB T0_ok (q8 P)) (r_seq (rB T0_ok (q7 P)) (r_seq (r_seq (rB T0_ok (q6 P)) (r_block (rL (l2 P) (fun N2 => (r_seq (r_seq (rB T0_ok (q5 P N2)) (r_cond rfl r_skip (r_exit (fun _ _ h => h)))) (r_seq (r_block (rB T0_ok (q4 P N2))) (rB T0_ok (q3 P N2)))))))) (r_seq (rB T0_ok (q1 P)) r_ret))))
theorem ac (P : PT) (x0 : Value) (H : AHeap) (h : B8 P x0 H) : AC Tryd.prog T0 59 [x0] H P :=
  r_fn T0_ok (c := code) (n := 20) Tryd.func59 body (by kernel_rfl) (main P) (En_mk (x0, ()) (by kernel_rfl) ⟨by kernel_rfl, trivial⟩ h)

end F59
-- loop.example/g01329/spec.l04Cycles
namespace F60
noncomputable def ret (P : PT) : EP := retE T0 92 Tryd.f60 P
abbrev k0 : Sk := [(6,.v)]
noncomputable def o1 := ob Tryd.f60 [.r,.r,.r,.l]
def B1 (P : PT) (x6 : Value) (H : AHeap) : Prop :=
  P x6 H
theorem q1 (P : PT) : QB Tryd.prog T0 92 o1 (ret P) k0 (B1 P) := fun _ _ _  => by kernel_rfl
abbrev k1 : Sk := [(1,.v),(2,.x),(5,.v),(6,.v),(7,.i .i64)]
noncomputable def o3 := ob Tryd.f60 [.r,.r,.l,.r,.l,.l,.r,.r]
def B3 (P : PT) (N2 : NTy k1 Pr) (x1 : Value) (x2 : Nat) (x5 x6 : Value) (x7 : Int) (H : AHeap) : Prop :=
  N2 x1 x2 x5 x6 (IntKind.i64.wrap (x7 + 1)) H
theorem q3 (P : PT) (N2 : NTy k1 Pr) : QB Tryd.prog T0 92 o3 (En 92 k1 N2) k1 (B3 P N2) := fun _ _ _ _ _ _ _  => by kernel_rfl
abbrev k2 : Sk := [(1,.v),(2,.x),(5,.v),(6,.v),(7,.i .i64),(8,.v)]
noncomputable def o4 := ob Tryd.f60 [.r,.r,.l,.r,.l,.l,.r,.l,.l,.r,.r,.r]
def B4 (P : PT) (N2 : NTy k1 Pr) (x1 : Value) (x2 : Nat) (x5 x6 : Value) (x7 : Int) (x8 : Value) (H : AHeap) : Prop :=
  pif (Value.oneCell' x8) (newK H [x8] 26 (fun b1 H2 => apK T0 26 H2 x6 (Value.slice (some ⟨b1, 0, none⟩) 1 (1 + 1)) (fun v3 H4 => B3 P N2 x1 x2 x5 v3 x7 H4))) False
theorem q4 (P : PT) (N2 : NTy k1 Pr) : QB Tryd.prog T0 92 o4 (En 92 k1 (B3 P N2)) k2 (B4 P N2) := fun _ _ _ _ _ _ _ _  => by kernel_rfl
abbrev k3 : Sk := [(1,.v),(2,.x),(5,.v),(6,.v),(7,.i .i64),(8,.v),(9,.i .i64),(10,.i .i64)]
noncomputable def o6 := ob Tryd.f60 [.r,.r,.l,.r,.l,.l,.r,.l,.l,.r,.r,.l,.l,.l,.r,.l,.r,.r,.r,.r,.r]
def B6 (P : PT) (N2 : NTy k1 Pr) (N5 : NTy k3 Pr) (x1 : Value) (x2 : Nat) (x5 x6 : Value) (x7 : Int) (x8 : Value) (x9 x10 : Int) (H : AHeap) : Prop :=
  ldI .i64 H x2 0 (fun v1 => ld1 H x2 1 (fun v2 => AC Tryd.prog T0 66 [(Value.agg ⟨[(Value.int .i64 v1), v2]⟩), (Value.int .i64 x9), (Value.int .i64 x10)] H (fun v3 H4 => asI .i64 v3 (fun v5 => N5 x1 x2 x5 x6 x7 x8 x9 v5 H4))))
theorem q6 (P : PT) (N2 : NTy k1 Pr) (N5 : NTy k3 Pr) : QB Tryd.prog T0 92 o6 (En 92 k3 N5) k3 (B6 P N2 N5) := fun _ _ _ _ _ _ _ _ _ _  => by kernel_rfl
abbrev k4 : Sk := [(1,.v),(2,.x),(5,.v),(6,.v),(7,.i .i64),(8,.v),(10,.i .i64),(12,.i .i64)]
noncomputable def o7 := ob Tryd.f60 [.r,.r,.l,.r,.l,.l,.r,.l,.l,.r,.r,.l,.l,.l,.r,.l,.r,.r,.r,.r,.l]
def B7 (P : PT) (N2 : NTy k1 Pr) (N5 : NTy k3 Pr) (x1 : Value) (x2 : Nat) (x5 x6 : Value) (x7 : Int) (x8 : Value) (x10 x12 : Int) (H : AHeap) : Prop :=
  B6 P N2 N5 x1 x2 x5 x6 x7 x8 x12 x10 H
theorem q7 (P : PT) (N2 : NTy k1 Pr) (N5 : NTy k3 Pr) : QB Tryd.prog T0 92 o7 (En 92 k3 (B6 P N2 N5)) k4 (B7 P N2 N5) := fun _ _ _ _ _ _ _ _ _ _  => by kernel_rfl
abbrev k5 : Sk := [(1,.v),(2,.x),(5,.v),(6,.v),(7,.i .i64),(8,.v),(9,.i .i64),(10,.i .i64),(11,.v),(12,.i .i64),(13,.i .i64)]
noncomputable def o9 := ob Tryd.f60 [.r,.r,.l,.r,.l,.l,.r,.l,.l,.r,.r,.l,.l,.l,.r,.l,.r,.r,.r,.l,.r,.l,.l,.r,.r]
def B9 (P : PT) (N2 : NTy k1 Pr) (N5 : NTy k3 Pr) (N8 : NTy k5 Pr) (x1 : Value) (x2 : Nat) (x5 x6 : Value) (x7 : Int) (x8 : Value) (x9 x10 : Int) (x11 : Value) (x12 x13 : Int) (H : AHeap) : Prop :=
  N8 x1 x2 x5 x6 x7 x8 x9 x10 x11 x12 (IntKind.i64.wrap (x13 + 1)) H
theorem q9 (P : PT) (N2 : NTy k1 Pr) (N5 : NTy k3 Pr) (N8 : NTy k5 Pr) : QB Tryd.prog T0 92 o9 (En 92 k5 N8) k5 (B9 P N2 N5 N8) := fun _ _ _ _ _ _ _ _ _ _ _ _ _  => by kernel_rfl
abbrev k6 : Sk := [(1,.v),(2,.x),(5,.v),(6,.v),(7,.i .i64),(8,.v),(9,.i .i64),(10,.i .i64),(11,.v),(13,.i .i64)]
noncomputable def o10 := ob Tryd.f60 [.r,.r,.l,.r,.l,.l,.r,.l,.l,.r,.r,.l,.l,.l,.r,.l,.r,.r,.r,.l,.r,.l,.l,.r,.l,.l,.r,.l]
def B10 (P : PT) (N2 : NTy k1 Pr) (N5 : NTy k3 Pr) (N8 : NTy k5 Pr) (x1 : Value) (x2 : Nat) (x5 x6 : Value) (x7 : Int) (x8 : Value) (x9 x10 : Int) (x11 : Value) (x13 : Int) (H : AHeap) : Prop :=
  idxK x11 x13 1 (fun b1 o2 => ldI .i64 H b1 o2 (fun v3 => B9 P N2 N5 N8 x1 x2 x5 x6 x7 x8 x9 x10 x11 v3 x13 H))
theorem q10 (P : PT) (N2 : NTy k1 Pr) (N5 : NTy k3 Pr) (N8 : NTy k5 Pr) : QB Tryd.prog T0 92 o10 (En 92 k5 (B9 P N2 N5 N8)) k6 (B10 P N2 N5 N8) := fun _ _ _ _ _ _ _ _ _ _ _ _  => by kernel_rfl
noncomputable def o11 := ob Tryd.f60 [.r,.r,.l,.r,.l,.l,.r,.l,.l,.r,.r,.l,.l,.l,.r,.l,.r,.r,.r,.l,.r,.l,.l,.r,.l,.l,.l]
def B11 (P : PT) (N2 : NTy k1 Pr) (N5 : NTy k3 Pr) (N8 : NTy k5 Pr) (x1 : Value) (x2 : Nat) (x5 x6 : Value) (x7 : Int) (x8 : Value) (x9 x10 : Int) (x11 : Value) (x12 x13 : Int) (H : AHeap) : Prop :=
  idxK x11 x13 1 (fun b1 o2 => ldI .i64 H b1 o2 (fun v3 => pif ((v3 : Int) != x9) (idxK x11 x13 1 (fun b4 o5 => ldI .i64 H b4 o5 (fun v6 => AC Tryd.prog T0 49 [x1, (Value.int .i64 v6)] H (fun v7 H8 => asB v7 (fun v9 => pif (!v9) (B10 P N2 N5 N8 x1 x2 x5 x6 x7 x8 x9 x10 x11 x13 H8) (B9 P N2 N5 N8 x1 x2 x5 x6 x7 x8 x9 x10 x11 x12 x13 H8)))))) (B9 P N2 N5 N8 x1 x2 x5 x6 x7 x8 x9 x10 x11 x12 x13 H)))
theorem q11 (P : PT) (N2 : NTy k1 Pr) (N5 : NTy k3 Pr) (N8 : NTy k5 Pr) : QB Tryd.prog T0 92 o11 (cnd 77 (En 92 k6 (B10 P N2 N5 N8)) (En 92 k5 (B9 P N2 N5 N8))) k5 (B11 P N2 N5 N8) := fun _ _ _ _ _ _ _ _ _ _ _ _ _  => by kernel_rfl
noncomputable def o12 := ob Tryd.f60 [.r,.r,.l,.r,.l,.l,.r,.l,.l,.r,.r,.l,.l,.l,.r,.l,.r,.r,.r,.l,.r,.l,.l,.l,.l]
def B12 (P : PT) (N2 : NTy k1 Pr) (N5 : NTy k3 Pr) (N8 : NTy k5 Pr) (x1 : Value) (x2 : Nat) (x5 x6 : Value) (x7 : Int) (x8 : Value) (x9 x10 : Int) (x11 : Value) (x12 x13 : Int) (H : AHeap) : Prop :=
  pif (decide ((x13 : Int) < 3)) (B11 P N2 N5 N8 x1 x2 x5 x6 x7 x8 x9 x10 x11 x12 x13 H) (B7 P N2 N5 x1 x2 x5 x6 x7 x8 x10 x12 H)
theorem q12 (P : PT) (N2 : NTy k1 Pr) (N5 : NTy k3 Pr) (N8 : NTy k5 Pr) : QB Tryd.prog T0 92 o12 (cnd 60 (En 92 k5 (B11 P N2 N5 N8)) (En 92 k4 (B7 P N2 N5))) k5 (B12 P N2 N5 N8) := fun _ _ _ _ _ _ _ _ _ _ _ _ _  => by kernel_rfl
def L8 (P : PT) (N2 : NTy k1 Pr) (N5 : NTy k3 Pr) (x1 : Value) (x2 : Nat) (x5 x6 : Value) (x7 : Int) (x8 : Value) (x9 x10 : Int) (x11 : Value) (x12 x13 : Int) (H : AHeap) : Prop :=
  ∃ (I : NTy k5 Pr) (μ : NTy k5 (AHeap → Nat)), I x1 x2 x5 x6 x7 x8 x9 x10 x11 x12 x13 H ∧ ∀ y1 y2 y5 y6 y7 y8 y9 y10 y11 y12 y13 G, I y1 y2 y5 y6 y7 y8 y9 y10 y11 y12 y13 G → B12 P N2 N5 (fun z1 z2 z5 z6 z7 z8 z9 z10 z11 z12 z13 G' => I z1 z2 z5 z6 z7 z8 z9 z10 z11 z12 z13 G' ∧ μ z1 z2 z5 z6 z7 z8 z9 z10 z11 z12 z13 G' < μ y1 y2 y5 y6 y7 y8 y9 y10 y11 y12 y13 G) y1 y2 y5 y6 y7 y8 y9 y10 y11 y12 y13 G
theorem l8 (P : PT) (N2 : NTy k1 Pr) (N5 : NTy k3 Pr) : LQ k5 (L8 P N2 N5) (B12 P N2 N5) := fun ⟨_,_,_,_,_,_,_,_,_,_,_,_⟩ _ ⟨I, μ, h0, hI⟩ => ⟨apT _ I, apT _ μ, h0, fun ⟨_,_,_,_,_,_,_,_,_,_,_,_⟩ _ h => hI _ _ _ _ _ _ _ _ _ _ _ _  h⟩
abbrev k7 : Sk := [(1,.v),(2,.x),(5,.v),(6,.v),(7,.i .i64),(8,.v),(9,.i .i64),(10,.i .i64),(11,.v),(12,.i .i64)]
noncomputable def o13 := ob Tryd.f60 [.r,.r,.l,.r,.l,.l,.r,.l,.l,.r,.r,.l,.l,.l,.r,.l,.r,.r,.r,.l,.l]
def B13 (P : PT) (N2 : NTy k1 Pr) (N5 : NTy k3 Pr) (x1 : Value) (x2 : Nat) (x5 x6 : Value) (x7 : Int) (x8 : Value) (x9 x10 : Int) (x11 : Value) (x12 : Int) (H : AHeap) : Prop :=
  L8 P N2 N5 x1 x2 x5 x6 x7 x8 x9 x10 x11 x12 0 H
theorem q13 (P : PT) (N2 : NTy k1 Pr) (N5 : NTy k3 Pr) : QB Tryd.prog T0 92 o13 (En 92 k5 (L8 P N2 N5)) k7 (B13 P N2 N5) := fun _ _ _ _ _ _ _ _ _ _ _ _  => by kernel_rfl
noncomputable def o14 := ob Tryd.f60 [.r,.r,.l,.r,.l,.l,.r,.l,.l,.r,.r,.l,.l,.l,.r,.l,.r,.r,.l]
def B14 (P : PT) (N2 : NTy k1 Pr) (N5 : NTy k3 Pr) (x1 : Value) (x2 : Nat) (x5 x6 : Value) (x7 : Int) (x8 : Value) (x9 x10 : Int) (H : AHeap) : Prop :=
  ldI .i64 H x2 0 (fun v1 => ld1 H x2 1 (fun v2 => AC Tryd.prog T0 65 [(Value.agg ⟨[(Value.int .i64 v1), v2]⟩), (Value.int .i64 x10)] H (fun v3 H4 => B13 P N2 N5 x1 x2 x5 x6 x7 x8 x9 x10 v3 x9 H4)))
theorem q14 (P : PT) (N2 : NTy k1 Pr) (N5 : NTy k3 Pr) : QB Tryd.prog T0 92 o14 (En 92 k7 (B13 P N2 N5)) k3 (B14 P N2 N5) := fun _ _ _ _ _ _ _ _ _ _  => by kernel_rfl
noncomputable def o15 := ob Tryd.f60 [.r,.r,.l,.r,.l,.l,.r,.l,.l,.r,.r,.l,.l,.l,.r,.l,.r,.l]
def B15 (P : PT) (N2 : NTy k1 Pr) (N5 : NTy k3 Pr) (x1 : Value) (x2 : Nat) (x5 x6 : Value) (x7 : Int) (x8 : Value) (x9 x10 : Int) (H : AHeap) : Prop :=
  newK H [(Value.int .i64 x9)] 2 (fun b1 H2 => apK T0 2 H2 x8 (Value.slice (some ⟨b1, 0, none⟩) 1 (1 + 1)) (fun v3 H4 => B14 P N2 N5 x1 x2 x5 x6 x7 v3 x9 x10 H4))
theorem q15 (P : PT) (N2 : NTy k1 Pr) (N5 : NTy k3 Pr) : QB Tryd.prog T0 92 o15 (En 92 k3 (B14 P N2 N5)) k3 (B15 P N2 N5) := fun _ _ _ _ _ _ _ _ _ _  => by kernel_rfl
noncomputable def o16 := ob Tryd.f60 [.r,.r,.l,.r,.l,.l,.r,.l,.l,.r,.r,.l,.l,.l,.r,.l,.l]
def B16 (P : PT) (N2 : NTy k1 Pr) (N5 : NTy k3 Pr) (x1 : Value) (x2 : Nat) (x5 x6 : Value) (x7 : Int) (x8 : Value) (x9 x10 : Int) (H : AHeap) : Prop :=
  idxK x5 x9 1 (fun b1 o2 => stK H b1 o2 [(Value.bool true)] (fun H3 => B15 P N2 N5 x1 x2 x5 x6 x7 x8 x9 x10 H3))
theorem q16 (P : PT) (N2 : NTy k1 Pr) (N5 : NTy k3 Pr) : QB Tryd.prog T0 92 o16 (En 92 k3 (B15 P N2 N5)) k3 (B16 P N2 N5) := fun _ _ _ _ _ _ _ _ _ _  => by kernel_rfl
noncomputable def o17 := ob Tryd.f60 [.r,.r,.l,.r,.l,.l,.r,.l,.l,.r,.r,.l,.l,.l,.l,.l]
def B17 (P : PT) (N2 : NTy k1 Pr) (N5 : NTy k3 Pr) (x1 : Value) (x2 : Nat) (x5 x6 : Value) (x7 : Int) (x8 : Value) (x9 x10 : Int) (H : AHeap) : Prop :=
  idxK x5 x9 1 (fun b1 o2 => ld1 H b1 o2 (fun v4 => asB v4 (fun v3 => pif (!v3) (B16 P N2 N5 x1 x2 x5 x6 x7 x8 x9 x10 H) (B4 P N2 x1 x2 x5 x6 x7 x8 H))))
theorem q17 (P : PT) (N2 : NTy k1 Pr) (N5 : NTy k3 Pr) : QB Tryd.prog T0 92 o17 (cnd 47 (En 92 k3 (B16 P N2 N5)) (En 92 k2 (B4 P N2))) k3 (B17 P N2 N5) := fun _ _ _ _ _ _ _ _ _ _  => by kernel_rfl
def L5 (P : PT) (N2 : NTy k1 Pr) (x1 : Value) (x2 : Nat) (x5 x6 : Value) (x7 : Int) (x8 : Value) (x9 x10 : Int) (H : AHeap) : Prop :=
  ∃ (I : NTy k3 Pr) (μ : NTy k3 (AHeap → Nat)), I x1 x2 x5 x6 x7 x8 x9 x10 H ∧ ∀ y1 y2 y5 y6 y7 y8 y9 y10 G, I y1 y2 y5 y6 y7 y8 y9 y10 G → B17 P N2 (fun z1 z2 z5 z6 z7 z8 z9 z10 G' => I z1 z2 z5 z6 z7 z8 z9 z10 G' ∧ μ z1 z2 z5 z6 z7 z8 z9 z10 G' < μ y1 y2 y5 y6 y7 y8 y9 y10 G) y1 y2 y5 y6 y7 y8 y9 y10 G
theorem l5 (P : PT) (N2 : NTy k1 Pr) : LQ k3 (L5 P N2) (B17 P N2) := fun ⟨_,_,_,_,_,_,_,_,_⟩ _ ⟨I, μ, h0, hI⟩ => ⟨apT _ I, apT _ μ, h0, fun ⟨_,_,_,_,_,_,_,_,_⟩ _ h => hI _ _ _ _ _ _ _ _ _  h⟩
noncomputable def o18 := ob Tryd.f60 [.r,.r,.l,.r,.l,.l,.r,.l,.l,.r,.l]
def B18 (P : PT) (N2 : NTy k1 Pr) (x1 : Value) (x2 : Nat) (x5 x6 : Value) (x7 : Int) (H : AHeap) : Prop :=
  ld1 H x2 1 (fun v1 => idxK v1 x7 2 (fun b2 o3 => ldI .i64 H b2 (o3 + 1) (fun v4 => newK H [] 2 (fun b5 H6 => L5 P N2 x1 x2 x5 x6 x7 (Value.slice (some ⟨b5, 0, none⟩) 0 (0 + 1)) x7 v4 H6))))
theorem q18 (P : PT) (N2 : NTy k1 Pr) : QD Tryd.prog T0 92 o18 [(1, false), (2, false), (3, false), (4, false), (5, false), (6, false), (7, false), (0, false), (8, false), (9, false), (10, false)] (En 92 k3 (L5 P N2)) k1 (B18 P N2) := fun _ _ _ _ _ _ _  => by kernel_rfl
noncomputable def o19 := ob Tryd.f60 [.r,.r,.l,.r,.l,.l,.r,.l,.l,.l,.l]
def B19 (P : PT) (N2 : NTy k1 Pr) (x1 : Value) (x2 : Nat) (x5 x6 : Value) (x7 : Int) (H : AHeap) : Prop :=
  idxK x5 x7 1 (fun b1 o2 => ld1 H b1 o2 (fun v4 => asB v4 (fun v3 => pif v3 (B3 P N2 x1 x2 x5 x6 x7 H) (AC Tryd.prog T0 49 [x1, (Value.int .i64 x7)] H (fun v5 H6 => asB v5 (fun v7 => pif v7 (B3 P N2 x1 x2 x5 x6 x7 H6) (B18 P N2 x1 x2 x5 x6 x7 H6)))))))
theorem q19 (P : PT) (N2 : NTy k1 Pr) : QB Tryd.prog T0 92 o19 (cnd 34 (En 92 k1 (B3 P N2)) (En 92 k1 (B18 P N2))) k1 (B19 P N2) := fun _ _ _ _ _ _ _  => by kernel_rfl
noncomputable def o20 := ob Tryd.f60 [.r,.r,.l,.r,.l,.l,.l,.l]
def B20 (P : PT) (N2 : NTy k1 Pr) (x1 : Value) (x2 : Nat) (x5 x6 : Value) (x7 : Int) (H : AHeap) : Prop :=
  ld1 H x2 1 (fun v1 => lenK v1 (fun n2 => pif (decide ((x7 : Int) < (n2 : Int))) (B19 P N2 x1 x2 x5 x6 x7 H) (B1 P x6 H)))
theorem q20 (P : PT) (N2 : NTy k1 Pr) : QB Tryd.prog T0 92 o20 (cnd 23 (En 92 k1 (B19 P N2)) (En 92 k0 (B1 P))) k1 (B20 P N2) := fun _ _ _ _ _ _ _  => by kernel_rfl
def L2 (P : PT) (x1 : Value) (x2 : Nat) (x5 x6 : Value) (x7 : Int) (H : AHeap) : Prop :=
  ∃ (I : NTy k1 Pr) (μ : NTy k1 (AHeap → Nat)), I x1 x2 x5 x6 x7 H ∧ ∀ y1 y2 y5 y6 y7 G, I y1 y2 y5 y6 y7 G → B20 P (fun z1 z2 z5 z6 z7 G' => I z1 z2 z5 z6 z7 G' ∧ μ z1 z2 z5 z6 z7 G' < μ y1 y2 y5 y6 y7 G) y1 y2 y5 y6 y7 G
theorem l2 (P : PT) : LQ k1 (L2 P) (B20 P) := fun ⟨_,_,_,_,_,_⟩ _ ⟨I, μ, h0, hI⟩ => ⟨apT _ I, apT _ μ, h0, fun ⟨_,_,_,_,_,_⟩ _ h => hI _ _ _ _ _ _  h⟩
abbrev k8 : Sk := [(1,.v),(2,.x),(5,.v),(6,.v)]
noncomputable def o21 := ob Tryd.f60 [.r,.r,.l,.l]
def B21 (P : PT) (x1 : Value) (x2 : Nat) (x5 x6 : Value) (H : AHeap) : Prop :=
  L2 P x1 x2 x5 x6 0 H
theorem q21 (P : PT) : QB Tryd.prog T0 92 o21 (En 92 k1 (L2 P)) k8 (B21 P) := fun _ _ _ _ _ _  => by kernel_rfl
abbrev k9 : Sk := [(1,.v),(2,.x)]
noncomputable def o22 := ob Tryd.f60 [.r,.l]
def B22 (P : PT) (x1 : Value) (x2 : Nat) (H : AHeap) : Prop :=
  ld1 H x2 1 (fun v1 => lenK v1 (fun n2 => mkR H 1 4 [(Value.bool false)] (n2 : Int) (n2 : Int) (fun v4 H3 => newK H3 [] 26 (fun b5 H6 => B21 P x1 x2 v4 (Value.slice (some ⟨b5, 0, none⟩) 0 (0 + 1)) H6))))
theorem q22 (P : PT) : QB Tryd.prog T0 92 o22 (En 92 k8 (B21 P)) k9 (B22 P) := fun _ _ _ _  => by kernel_rfl
abbrev k10 : Sk := [(0,.g [.i,.v]),(1,.v)]
noncomputable def o23 := ob Tryd.f60 [.l]
def B23 (P : PT) (x0a : Int) (x0b x1 : Value) (H : AHeap) : Prop :=
  newK H [(Value.int .i64 x0a), x0b] 31 (fun b1 H2 => B22 P x1 b1 H2)
theorem q23 (P : PT) : QB Tryd.prog T0 92 o23 (En 92 k9 (B22 P)) k10 (B23 P) := fun _ _ _ _ _  => by kernel_rfl
noncomputable def code : Code := (.seq (.region 0 ⟨o23⟩ false) (.seq (.region 1 ⟨o22⟩ false) (.seq (.seq (.region 2 ⟨o21⟩ false) (.block 0 (.loop (.seq (.seq (.region 3 ⟨o20⟩ false) (.cond (.tmp 23) .skip (.exit 0))) (.seq (.block 1 (.seq (.seq (.region 5 ⟨o19⟩ false) (.cond (.tmp 34) (.exit 1) .skip)) (.seq (.region 6 ⟨o18⟩ true) (.seq (.block 2 (.loop (.seq (.seq (.region 7 ⟨o17⟩ false) (.cond (.tmp 47) .skip (.exit 2))) (.block 3 (.seq (.region 8 ⟨o16⟩ false) (.seq (.region 9 ⟨o15⟩ false) (.seq (.region 10 ⟨o14⟩ false) (.seq (.seq (.region 11 ⟨o13⟩ false) (.block 4 (.loop (.seq (.seq (.region 12 ⟨o12⟩ false) (.cond (.tmp 60) .skip (.exit 4))) (.seq (.block 5 (.seq (.region 14 ⟨o11⟩ false) (.cond (.tmp 77) (.region 15 ⟨o10⟩ false) .skip))) (.region 13 ⟨o9⟩ false)))))) (.seq (.region 16 ⟨o7⟩ false) (.region 17 ⟨o6⟩ false)))))))))) (.region 18 ⟨o4⟩ false))))) (.region 4 ⟨o3⟩ false)))))) (.seq (.region 19 ⟨o1⟩ false) .ret))))
theorem body : Tryd.f60.body = some code := by kernel_rfl
theorem main (P : PT) : ∀ env H, (En 92 k10 (B23 P)) env H → AW Tryd.prog T0 code env H (mkQ (ret P) (fun _ _ _ => False) (ret P)) :=
  (r_seq (rB T0_ok (q23 P)) (r_seq (rB T0_ok (q22 P)) (r_seq (r_seq (rB T0_ok (q21 P)) (r_block (rL (l2 P) (fun N2 => (r_seq (r_seq (rB T0_ok (q20 P N2)) (r_cond rfl r_skip (r_exit (fun _ _ h => h)))) (r_seq (r_block (r_seq (r_seq (rB T0_ok (q19 P N2)) (r_cond rfl (r_exit (fun _ _ h => h)) r_skip)) (r_seq (rD T0_ok mixed [(1, false), (2, false), (3, false), (4, false), (5, false), (6, false), (7, false), (0, false), (8, false), (9, false), (10, false)] (by kernel_rfl) (q18 P N2)) (r_seq (r_block (rL (l5 P N2) (fun N5 => (r_seq (r_seq (rB T0_ok (q17 P N2 N5)) (r_cond rfl r_skip (r_exit (fun _ _ h => h)))) (r_block (r_seq (rB T0_ok (q16 P N2 N5)) (r_seq (rB T0_ok (q15 P N2 N5)) (r_seq (rB T0_ok (q14 P N2 N5)) (r_seq (r_seq (rB T0_ok (q13 P N2 N5)) (r_block (rL (l8 P N2 N5) (fun N8 => (r_seq (r_seq (rB T0_ok (q12 P N2 N5 N8)) (r_cond rfl r_skip (r_exit (fun _ _ h => h)))) (r_seq (r_block (r_seq (rB T0_ok (q11 P N2 N5 N8)) (r_cond rfl (rB T0_ok (q10 P N2 N5 N8)) r_skip))) (rB T0_ok (q9 P N2 N5 N8)))))))) (r_seq (rB T0_ok (q7 P N2 N5)) (rB T0_ok (q6 P N2 N5)))))))))))) (rB T0_ok (q4 P N2)))))) (rB T0_ok (q3 P N2)))))))) (r_seq (rB T0_ok (q1 P)) r_ret))))
theorem ac (P : PT) (x0a : Int) (x0b x1 : Value) (H : AHeap) (h : B23 P x0a x0b x1 H) : AC Tryd.prog T0 60 [(Value.agg ⟨[(Value.int .i64 x0a), x0b]⟩), x1] H P :=
  r_fn T0_ok (c := code) (n := 92) Tryd.func60 body (by kernel_rfl) (main P) (En_mk (x0a, x0b, x1, ()) (by kernel_rfl) ⟨by kernel_rfl, by kernel_rfl, trivial⟩ h)

end F60
-- (loop.example/g01329/impl.Graph).best$1
namespace F61
noncomputable def ret (P : PT) : EP := retE T0 21 Tryd.f61 P
abbrev k0 : Sk := [(2,.v)]
noncomputable def o1 := ob Tryd.f61 [.r,.r,.l]
def B1 (P : PT) (x2 : Value) (H : AHeap) : Prop :=
  asP x2 (fun b1 o2 => ldI .i64 H b1 o2 (fun v3 => P (Value.bool ((v3 : Int) == 0)) H))
theorem q1 (P : PT) : QB Tryd.prog T0 21 o1 (ret P) k0 (B1 P) := fun _ _ _  => by kernel_rfl
abbrev k1 : Sk := [(0,.i .u64),(2,.v),(3,.v),(6,.i .i64)]
noncomputable def o2 := ob Tryd.f61 [.r,.l,.r,.r,.l]
def B2 (P : PT) (x0 : Int) (x2 x3 : Value) (x6 : Int) (H : AHeap) : Prop :=
  asP x3 (fun b1 o2 => stK H b1 o2 [(Value.int .u64 x0)] (fun H3 => asP x2 (fun b4 o5 => stK H3 b4 o5 [(Value.int .i64 x6)] (fun H6 => B1 P x2 H6))))
theorem q2 (P : PT) : QB Tryd.prog T0 21 o2 (En 21 k0 (B1 P)) k1 (B2 P) := fun _ _ _ _ _ _  => by kernel_rfl
noncomputable def o3 := ob Tryd.f61 [.r,.l,.r,.l]
def B3 (P : PT) (x0 : Int) (x2 x3 : Value) (x6 : Int) (H : AHeap) : Prop :=
  asP x2 (fun b1 o2 => ldI .i64 H b1 o2 (fun v3 => pif ((v3 : Int) == (-1)) (B2 P x0 x2 x3 x6 H) (asP x2 (fun b4 o5 => ldI .i64 H b4 o5 (fun v6 => pif (decide ((x6 : Int) < v6)) (B2 P x0 x2 x3 x6 H) (B1 P x2 H))))))
theorem q3 (P : PT) : QB Tryd.prog T0 21 o3 (cnd 16 (En 21 k1 (B2 P)) (En 21 k0 (B1 P))) k1 (B3 P) := fun _ _ _ _ _ _  => by kernel_rfl
abbrev k2 : Sk := [(0,.i .u64),(1,.v),(2,.v),(3,.v)]
noncomputable def o4 := ob Tryd.f61 [.r,.l,.l]
def B4 (P : PT) (x0 : Int) (x1 x2 x3 : Value) (H : AHeap) : Prop :=
  asP x1 (fun b1 o2 => ldI .i64 H b1 o2 (fun v3 => ld1 H b1 (o2 + 1) (fun v4 => AC Tryd.prog T0 62 [(Value.agg ⟨[(Value.int .i64 v3), v4]⟩), (Value.int .u64 x0)] H (fun v5 H6 => asI .i64 v5 (fun v7 => B3 P x0 x2 x3 v7 H6)))))
theorem q4 (P : PT) : QB Tryd.prog T0 21 o4 (En 21 k1 (B3 P)) k2 (B4 P) := fun _ _ _ _ _ _  => by kernel_rfl
noncomputable def o5 := ob Tryd.f61 [.l]
def B5 (P : PT) (x0 : Int) (x1 x2 x3 : Value) (H : AHeap) : Prop :=
  B4 P x0 x1 x2 x3 H
theorem q5 (P : PT) : QB Tryd.prog T0 21 o5 (En 21 k2 (B4 P)) k2 (B5 P) := fun _ _ _ _ _ _  => by kernel_rfl
noncomputable def code : Code := (.seq (.region 0 ⟨o5⟩ false) (.seq (.seq (.region 1 ⟨o4⟩ false) (.seq (.region 2 ⟨o3⟩ false) (.cond (.tmp 16) (.region 3 ⟨o2⟩ false) .skip))) (.seq (.region 4 ⟨o1⟩ false) .ret)))
theorem body : Tryd.f61.body = some code := by kernel_rfl
theorem main (P : PT) : ∀ env H, (En 21 k2 (B5 P)) env H → AW Tryd.prog T0 code env H (mkQ (ret P) (fun _ _ _ => False) (ret P)) :=
  (r_seq (rB T0_ok (q5 P)) (r_seq (r_seq (rB T0_ok (q4 P)) (r_seq (rB T0_ok (q3 P)) (r_cond rfl (rB T0_ok (q2 P)) r_skip))) (r_seq (rB T0_ok (q1 P)) r_ret)))
theorem ac (P : PT) (x0 : Int) (x1 x2 x3 : Value) (H : AHeap) (h : B5 P x0 x1 x2 x3 H) : AC Tryd.prog T0 61 [(Value.int .u64 x0), x1, x2, x3] H P :=
  r_fn T0_ok (c := code) (n := 21) Tryd.func61 body (by kernel_rfl) (main P) (En_mk (x0, x1, x2, x3, ()) (by kernel_rfl) ⟨by kernel_rfl, by kernel_rfl, by kernel_rfl, by kernel_rfl, trivial⟩ h)

end F61
-- (loop.example/g01329/impl.Graph).odd
namespace F62
noncomputable def ret (P : PT) : EP := retE T0 23 Tryd.f62 P
abbrev k0 : Sk := [(5,.i .i64)]
noncomputable def o1 := ob Tryd.f62 [.r,.r,.r,.l]
def B1 (P : PT) (x5 : Int) (H : AHeap) : Prop :=
  P (Value.int .i64 x5) H
theorem q1 (P : PT) : QB Tryd.prog T0 23 o1 (ret P) k0 (B1 P) := fun _ _ _  => by kernel_rfl
abbrev k1 : Sk := [(5,.i .i64),(10,.v),(11,.i .i64),(12,.i .i64)]
noncomputable def o3 := ob Tryd.f62 [.r,.r,.l,.r,.l,.l,.r,.r,.r]
def B3 (P : PT) (N2 : NTy k1 Pr) (x5 : Int) (x10 : Value) (x11 x12 : Int) (H : AHeap) : Prop :=
  N2 x5 x10 x11 (IntKind.i64.wrap (x12 + 1)) H
theorem q3 (P : PT) (N2 : NTy k1 Pr) : QB Tryd.prog T0 23 o3 (En 23 k1 N2) k1 (B3 P N2) := fun _ _ _ _ _ _  => by kernel_rfl
abbrev k2 : Sk := [(5,.i .i64),(7,.i .u64),(10,.v),(11,.i .i64),(12,.i .i64)]
noncomputable def o4 := ob Tryd.f62 [.r,.r,.l,.r,.l,.l,.r,.r,.l,.l,.r]
def B4 (P : PT) (N2 : NTy k1 Pr) (x5 x7 : Int) (x10 : Value) (x11 x12 : Int) (H : AHeap) : Prop :=
  AC Tryd.prog T0 75 [(Value.int .u64 x7)] H (fun v1 H2 => asI .i64 v1 (fun v3 => B3 P N2 (IntKind.i64.wrap (x5 + (Int.tmod v3 2))) x10 x11 x12 H2))
theorem q4 (P : PT) (N2 : NTy k1 Pr) : QB Tryd.prog T0 23 o4 (En 23 k1 (B3 P N2)) k2 (B4 P N2) := fun _ _ _ _ _ _ _  => by kernel_rfl
noncomputable def o5 := ob Tryd.f62 [.r,.r,.l,.r,.l,.l,.r,.r,.l,.l,.l]
def B5 (P : PT) (N2 : NTy k1 Pr) (x5 : Int) (x10 : Value) (x11 x12 : Int) (H : AHeap) : Prop :=
  idxK x10 x12 1 (fun b1 o2 => ldI .u64 H b1 o2 (fun v3 => B4 P N2 x5 v3 x10 x11 x12 H))
theorem q5 (P : PT) (N2 : NTy k1 Pr) : QB Tryd.prog T0 23 o5 (En 23 k2 (B4 P N2)) k1 (B5 P N2) := fun _ _ _ _ _ _  => by kernel_rfl
noncomputable def o6 := ob Tryd.f62 [.r,.r,.l,.r,.l,.l,.l]
def B6 (P : PT) (N2 : NTy k1 Pr) (x5 : Int) (x10 : Value) (x11 x12 : Int) (H : AHeap) : Prop :=
  pif (decide ((x12 : Int) < x11)) (B5 P N2 x5 x10 x11 x12 H) (B1 P x5 H)
theorem q6 (P : PT) (N2 : NTy k1 Pr) : QB Tryd.prog T0 23 o6 (cnd 13 (En 23 k1 (B5 P N2)) (En 23 k0 (B1 P))) k1 (B6 P N2) := fun _ _ _ _ _ _  => by kernel_rfl
def L2 (P : PT) (x5 : Int) (x10 : Value) (x11 x12 : Int) (H : AHeap) : Prop :=
  ∃ (I : NTy k1 Pr) (μ : NTy k1 (AHeap → Nat)), I x5 x10 x11 x12 H ∧ ∀ y5 y10 y11 y12 G, I y5 y10 y11 y12 G → B6 P (fun z5 z10 z11 z12 G' => I z5 z10 z11 z12 G' ∧ μ z5 z10 z11 z12 G' < μ y5 y10 y11 y12 G) y5 y10 y11 y12 G
theorem l2 (P : PT) : LQ k1 (L2 P) (B6 P) := fun ⟨_,_,_,_,_⟩ _ ⟨I, μ, h0, hI⟩ => ⟨apT _ I, apT _ μ, h0, fun ⟨_,_,_,_,_⟩ _ h => hI _ _ _ _ _  h⟩
abbrev k3 : Sk := [(1,.i .u64),(2,.x),(5,.i .i64)]
noncomputable def o7 := ob Tryd.f62 [.r,.r,.l,.l]
def B7 (P : PT) (x1 : Int) (x2 : Nat) (x5 : Int) (H : AHeap) : Prop :=
  ldI .i64 H x2 0 (fun v1 => ld1 H x2 1 (fun v2 => AC Tryd.prog T0 74 [(Value.agg ⟨[(Value.int .i64 v1), v2]⟩), (Value.int .u64 x1)] H (fun v3 H4 => lenK v3 (fun n6 => L2 P x5 v3 (n6 : Int) 0 H4))))
theorem q7 (P : PT) : QB Tryd.prog T0 23 o7 (En 23 k1 (L2 P)) k3 (B7 P) := fun _ _ _ _ _  => by kernel_rfl
abbrev k4 : Sk := [(1,.i .u64),(2,.x)]
noncomputable def o8 := ob Tryd.f62 [.r,.l]
def B8 (P : PT) (x1 : Int) (x2 : Nat) (H : AHeap) : Prop :=
  B7 P x1 x2 0 H
theorem q8 (P : PT) : QB Tryd.prog T0 23 o8 (En 23 k3 (B7 P)) k4 (B8 P) := fun _ _ _ _  => by kernel_rfl
abbrev k5 : Sk := [(0,.g [.i,.v]),(1,.i .u64)]
noncomputable def o9 := ob Tryd.f62 [.l]
def B9 (P : PT) (x0a : Int) (x0b : Value) (x1 : Int) (H : AHeap) : Prop :=
  newK H [(Value.int .i64 x0a), x0b] 31 (fun b1 H2 => B8 P x1 b1 H2)
theorem q9 (P : PT) : QB Tryd.prog T0 23 o9 (En 23 k4 (B8 P)) k5 (B9 P) := fun _ _ _ _ _  => by kernel_rfl
noncomputable def code : Code := (.seq (.region 0 ⟨o9⟩ false) (.seq (.region 1 ⟨o8⟩ false) (.seq (.seq (.region 2 ⟨o7⟩ false) (.block 0 (.loop (.seq (.region 3 ⟨o6⟩ false) (.seq (.cond (.tmp 13) .skip (.exit 0)) (.seq (.block 1 (.seq (.region 4 ⟨o5⟩ false) (.region 5 ⟨o4⟩ false))) (.region 6 ⟨o3⟩ false))))))) (.seq (.region 7 ⟨o1⟩ false) .ret))))
theorem body : Tryd.f62.body = some code := by kernel_rfl
theorem main (P : PT) : ∀ env H, (En 23 k5 (B9 P)) env H → AW Tryd.prog T0 code env H (mkQ (ret P) (fun _ _ _ => False) (ret P)) :=
  (r_seq (rB T0_ok (q9 P)) (r_seq (rB T0_ok (q8 P)) (r_seq (r_seq (rB T0_ok (q7 P)) (r_block (rL (l2 P) (fun N2 => (r_seq (rB T0_ok (q6 P N2)) (r_seq (r_cond rfl r_skip (r_exit (fun _ _ h => h))) (r_seq (r_block (r_seq (rB T0_ok (q5 P N2)) (rB T0_ok (q4 P N2)))) (rB T0_ok (q3 P N2))))))))) (r_seq (rB T0_ok (q1 P)) r_ret))))
theorem ac (P : PT) (x0a : Int) (x0b : Value) (x1 : Int) (H : AHeap) (h : B9 P x0a x0b x1 H) : AC Tryd.prog T0 62 [(Value.agg ⟨[(Value.int .i64 x0a), x0b]⟩), (Value.int .u64 x1)] H P :=
  r_fn T0_ok (c := code) (n := 23) Tryd.func62 body (by kernel_rfl) (main P) (En_mk (x0a, x0b, x1, ()) (by kernel_rfl) ⟨by kernel_rfl, by kernel_rfl, trivial⟩ h)

end F62
-- loop.example/g01329/spec.l01In
namespace F63
noncomputable def ret (P : PT) : EP := retE T0 15 Tryd.f63 P
abbrev k0 : Sk := [(0,.i .i64),(1,.i .i64),(2,.i .i64)]
noncomputable def o1 := ob Tryd.f63 [.r,.l]
def B1 (P : PT) (x0 x1 x2 : Int) (H : AHeap) : Prop :=
  pif (decide ((x0 : Int) ≥ x1)) (P (Value.bool (decide ((x0 : Int) ≤ x2))) H) (P (Value.bool false) H)
theorem q1 (P : PT) : QB Tryd.prog T0 15 o1 (ret P) k0 (B1 P) := fun _ _ _ _ _  => by kernel_rfl
noncomputable def o2 := ob Tryd.f63 [.l]
def B2 (P : PT) (x0 x1 x2 : Int) (H : AHeap) : Prop :=
  B1 P x0 x1 x2 H
theorem q2 (P : PT) : QB Tryd.prog T0 15 o2 (En 15 k0 (B1 P)) k0 (B2 P) := fun _ _ _ _ _  => by kernel_rfl
noncomputable def code : Code := (.seq (.region 0 ⟨o2⟩ false) (.seq (.region 1 ⟨o1⟩ false) .ret))
theorem body : Tryd.f63.body = some code := by kernel_rfl
theorem main (P : PT) : ∀ env H, (En 15 k0 (B2 P)) env H → AW Tryd.prog T0 code env H (mkQ (ret P) (fun _ _ _ => False) (ret P)) :=
  (r_seq (rB T0_ok (q2 P)) (r_seq (rB T0_ok (q1 P)) r_ret))
theorem ac (P : PT) (x0 x1 x2 : Int) (H : AHeap) (h : B2 P x0 x1 x2 H) : AC Tryd.prog T0 63 [(Value.int .i64 x0), (Value.int .i64 x1), (Value.int .i64 x2)] H P :=
  r_fn T0_ok (c := code) (n := 15) Tryd.func63 body (by kernel_rfl) (main P) (En_mk (x0, x1, x2, ()) (by kernel_rfl) ⟨by kernel_rfl, by kernel_rfl, by kernel_rfl, trivial⟩ h)

end F63
-- loop.example/g01329/spec.l01Own
namespace F64
noncomputable def ret (P : PT) : EP := retE T0 6 Tryd.f64 P
abbrev k0 : Sk := [(0,.v)]
noncomputable def o1 := ob Tryd.f64 [.r,.l]
def B1 (P : PT) (x0 : Value) (H : AHeap) : Prop :=
  newK H [] 2 (fun b1 H2 => apK T0 2 H2 (Value.slice (some ⟨b1, 0, none⟩) 0 (0 + 1)) x0 (fun v3 H4 => P v3 H4))
theorem q1 (P : PT) : QB Tryd.prog T0 6 o1 (ret P) k0 (B1 P) := fun _ _ _  => by kernel_rfl
noncomputable def o2 := ob Tryd.f64 [.l]
def B2 (P : PT) (x0 : Value) (H : AHeap) : Prop :=
  B1 P x0 H
theorem q2 (P : PT) : QB Tryd.prog T0 6 o2 (En 6 k0 (B1 P)) k0 (B2 P) := fun _ _ _  => by kernel_rfl
noncomputable def code : Code := (.seq (.region 0 ⟨o2⟩ false) (.seq (.region 1 ⟨o1⟩ false) .ret))
theorem body : Tryd.f64.body = some code := by kernel_rfl
theorem main (P : PT) : ∀ env H, (En 6 k0 (B2 P)) env H → AW Tryd.prog T0 code env H (mkQ (ret P) (fun _ _ _ => False) (ret P)) :=
  (r_seq (rB T0_ok (q2 P)) (r_seq (rB T0_ok (q1 P)) r_ret))
theorem ac (P : PT) (x0 : Value) (H : AHeap) (h : B2 P x0 H) : AC Tryd.prog T0 64 [x0] H P :=
  r_fn T0_ok (c := code) (n := 6) Tryd.func64 body (by kernel_rfl) (main P) (En_mk (x0, ()) (by kernel_rfl) ⟨by kernel_rfl, trivial⟩ h)

end F64
-- loop.example/g01329/spec.l01At
namespace F65
noncomputable def ret (P : PT) : EP := retE T0 38 Tryd.f65 P
abbrev k0 : Sk := [(5,.v)]
noncomputable def o1 := ob Tryd.f65 [.r,.r,.r,.l]
def B1 (P : PT) (x5 : Value) (H : AHeap) : Prop :=
  P x5 H
theorem q1 (P : PT) : QB Tryd.prog T0 38 o1 (ret P) k0 (B1 P) := fun _ _ _  => by kernel_rfl
abbrev k1 : Sk := [(1,.i .i64),(2,.x),(5,.v),(6,.i .i64)]
noncomputable def o3 := ob Tryd.f65 [.r,.r,.l,.r,.l,.l,.r,.r]
def B3 (P : PT) (N2 : NTy k1 Pr) (x1 : Int) (x2 : Nat) (x5 : Value) (x6 : Int) (H : AHeap) : Prop :=
  N2 x1 x2 x5 (IntKind.i64.wrap (x6 + 1)) H
theorem q3 (P : PT) (N2 : NTy k1 Pr) : QB Tryd.prog T0 38 o3 (En 38 k1 N2) k1 (B3 P N2) := fun _ _ _ _ _ _  => by kernel_rfl
noncomputable def o4 := ob Tryd.f65 [.r,.r,.l,.r,.l,.l,.r,.l,.l,.r,.l]
def B4 (P : PT) (N2 : NTy k1 Pr) (x1 : Int) (x2 : Nat) (x5 : Value) (x6 : Int) (H : AHeap) : Prop :=
  newK H [(Value.int .i64 x6)] 2 (fun b1 H2 => apK T0 2 H2 x5 (Value.slice (some ⟨b1, 0, none⟩) 1 (1 + 1)) (fun v3 H4 => B3 P N2 x1 x2 v3 x6 H4))
theorem q4 (P : PT) (N2 : NTy k1 Pr) : QB Tryd.prog T0 38 o4 (En 38 k1 (B3 P N2)) k1 (B4 P N2) := fun _ _ _ _ _ _  => by kernel_rfl
noncomputable def o5 := ob Tryd.f65 [.r,.r,.l,.r,.l,.l,.r,.l,.l,.l]
def B5 (P : PT) (N2 : NTy k1 Pr) (x1 : Int) (x2 : Nat) (x5 : Value) (x6 : Int) (H : AHeap) : Prop :=
  ld1 H x2 1 (fun v1 => idxK v1 x6 2 (fun b2 o3 => ldI .i64 H b2 o3 (fun v4 => pif ((v4 : Int) == x1) (B4 P N2 x1 x2 x5 x6 H) (ld1 H x2 1 (fun v5 => idxK v5 x6 2 (fun b6 o7 => ldI .i64 H b6 (o7 + 1) (fun v8 => pif ((v8 : Int) == x1) (B4 P N2 x1 x2 x5 x6 H) (B3 P N2 x1 x2 x5 x6 H))))))))
theorem q5 (P : PT) (N2 : NTy k1 Pr) : QB Tryd.prog T0 38 o5 (cnd 32 (En 38 k1 (B4 P N2)) (En 38 k1 (B3 P N2))) k1 (B5 P N2) := fun _ _ _ _ _ _  => by kernel_rfl
noncomputable def o6 := ob Tryd.f65 [.r,.r,.l,.r,.l,.l,.l,.l]
def B6 (P : PT) (N2 : NTy k1 Pr) (x1 : Int) (x2 : Nat) (x5 : Value) (x6 : Int) (H : AHeap) : Prop :=
  ld1 H x2 1 (fun v1 => lenK v1 (fun n2 => pif (decide ((x6 : Int) < (n2 : Int))) (B5 P N2 x1 x2 x5 x6 H) (B1 P x5 H)))
theorem q6 (P : PT) (N2 : NTy k1 Pr) : QB Tryd.prog T0 38 o6 (cnd 12 (En 38 k1 (B5 P N2)) (En 38 k0 (B1 P))) k1 (B6 P N2) := fun _ _ _ _ _ _  => by kernel_rfl
def L2 (P : PT) (x1 : Int) (x2 : Nat) (x5 : Value) (x6 : Int) (H : AHeap) : Prop :=
  ∃ (I : NTy k1 Pr) (μ : NTy k1 (AHeap → Nat)), I x1 x2 x5 x6 H ∧ ∀ y1 y2 y5 y6 G, I y1 y2 y5 y6 G → B6 P (fun z1 z2 z5 z6 G' => I z1 z2 z5 z6 G' ∧ μ z1 z2 z5 z6 G' < μ y1 y2 y5 y6 G) y1 y2 y5 y6 G
theorem l2 (P : PT) : LQ k1 (L2 P) (B6 P) := fun ⟨_,_,_,_,_⟩ _ ⟨I, μ, h0, hI⟩ => ⟨apT _ I, apT _ μ, h0, fun ⟨_,_,_,_,_⟩ _ h => hI _ _ _ _ _  h⟩
abbrev k2 : Sk := [(1,.i .i64),(2,.x),(5,.v)]
noncomputable def o7 := ob Tryd.f65 [.r,.r,.l,.l]
def B7 (P : PT) (x1 : Int) (x2 : Nat) (x5 : Value) (H : AHeap) : Prop :=
  L2 P x1 x2 x5 0 H
theorem q7 (P : PT) : QB Tryd.prog T0 38 o7 (En 38 k1 (L2 P)) k2 (B7 P) := fun _ _ _ _ _  => by kernel_rfl
abbrev k3 : Sk := [(1,.i .i64),(2,.x)]
noncomputable def o8 := ob Tryd.f65 [.r,.l]
def B8 (P : PT) (x1 : Int) (x2 : Nat) (H : AHeap) : Prop :=
  newK H [] 2 (fun b1 H2 => B7 P x1 x2 (Value.slice (some ⟨b1, 0, none⟩) 0 (0 + 1)) H2)
theorem q8 (P : PT) : QB Tryd.prog T0 38 o8 (En 38 k2 (B7 P)) k3 (B8 P) := fun _ _ _ _  => by kernel_rfl
abbrev k4 : Sk := [(0,.g [.i,.v]),(1,.i .i64)]
noncomputable def o9 := ob Tryd.f65 [.l]
def B9 (P : PT) (x0a : Int) (x0b : Value) (x1 : Int) (H : AHeap) : Prop :=
  newK H [(Value.int .i64 x0a), x0b] 31 (fun b1 H2 => B8 P x1 b1 H2)
theorem q9 (P : PT) : QB Tryd.prog T0 38 o9 (En 38 k3 (B8 P)) k4 (B9 P) := fun _ _ _ _ _  => by kernel_rfl
noncomputable def code : Code := (.seq (.region 0 ⟨o9⟩ false) (.seq (.region 1 ⟨o8⟩ false) (.seq (.seq (.region 2 ⟨o7⟩ false) (.block 0 (.loop (.seq (.seq (.region 3 ⟨o6⟩ false) (.cond (.tmp 12) .skip (.exit 0))) (.seq (.block 1 (.seq (.region 5 ⟨o5⟩ false) (.cond (.tmp 32) (.region 6 ⟨o4⟩ false) .skip))) (.region 4 ⟨o3⟩ false)))))) (.seq (.region 7 ⟨o1⟩ false) .ret))))
theorem body : Tryd.f65.body = some code := by kernel_rfl
theorem main (P : PT) : ∀ env H, (En 38 k4 (B9 P)) env H → AW Tryd.prog T0 code env H (mkQ (ret P) (fun _ _ _ => False) (ret P)) :=
  (r_seq (rB T0_ok (q9 P)) (r_seq (rB T0_ok (q8 P)) (r_seq (r_seq (rB T0_ok (q7 P)) (r_block (rL (l2 P) (fun N2 => (r_seq (r_seq (rB T0_ok (q6 P N2)) (r_cond rfl r_skip (r_exit (fun _ _ h => h)))) (r_seq (r_block (r_seq (rB T0_ok (q5 P N2)) (r_cond rfl (rB T0_ok (q4 P N2)) r_skip))) (rB T0_ok (q3 P N2)))))))) (r_seq (rB T0_ok (q1 P)) r_ret))))
theorem ac (P : PT) (x0a : Int) (x0b : Value) (x1 : Int) (H : AHeap) (h : B9 P x0a x0b x1 H) : AC Tryd.prog T0 65 [(Value.agg ⟨[(Value.int .i64 x0a), x0b]⟩), (Value.int .i64 x1)] H P :=
  r_fn T0_ok (c := code) (n := 38) Tryd.func65 body (by kernel_rfl) (main P) (En_mk (x0a, x0b, x1, ()) (by kernel_rfl) ⟨by kernel_rfl, by kernel_rfl, trivial⟩ h)

end F65
-- loop.example/g01329/spec.l01Other
namespace F66
noncomputable def ret (P : PT) : EP := retE T0 22 Tryd.f66 P
abbrev k0 : Sk := [(1,.i .i64),(2,.i .i64),(3,.x)]
noncomputable def o1 := ob Tryd.f66 [.r,.l]
def B1 (P : PT) (x1 x2 : Int) (x3 : Nat) (H : AHeap) : Prop :=
  ld1 H x3 1 (fun v1 => idxK v1 x1 2 (fun b2 o3 => ldI .i64 H b2 o3 (fun v4 => ld1 H x3 1 (fun v5 => idxK v5 x1 2 (fun b6 o7 => ldI .i64 H b6 (o7 + 1) (fun v8 => P (Value.int .i64 (IntKind.i64.wrap ((IntKind.i64.wrap (v4 + v8)) - x2))) H))))))
theorem q1 (P : PT) : QD Tryd.prog T0 22 o1 [(0, false), (1, false), (2, false), (3, false), (4, false), (5, false), (6, false), (7, false), (8, false), (9, false), (10, false), (11, false), (12, false), (13, false), (14, false), (15, false)] (ret P) k0 (B1 P) := fun _ _ _ _ _  => by kernel_rfl
abbrev k1 : Sk := [(0,.g [.i,.v]),(1,.i .i64),(2,.i .i64)]
noncomputable def o2 := ob Tryd.f66 [.l]
def B2 (P : PT) (x0a : Int) (x0b : Value) (x1 x2 : Int) (H : AHeap) : Prop :=
  newK H [(Value.int .i64 x0a), x0b] 31 (fun b1 H2 => B1 P x1 x2 b1 H2)
theorem q2 (P : PT) : QB Tryd.prog T0 22 o2 (En 22 k0 (B1 P)) k1 (B2 P) := fun _ _ _ _ _ _  => by kernel_rfl
noncomputable def code : Code := (.seq (.region 0 ⟨o2⟩ false) (.seq (.region 1 ⟨o1⟩ true) .ret))
theorem body : Tryd.f66.body = some code := by kernel_rfl
theorem main (P : PT) : ∀ env H, (En 22 k1 (B2 P)) env H → AW Tryd.prog T0 code env H (mkQ (ret P) (fun _ _ _ => False) (ret P)) :=
  (r_seq (rB T0_ok (q2 P)) (r_seq (rD T0_ok mixed [(0, false), (1, false), (2, false), (3, false), (4, false), (5, false), (6, false), (7, false), (8, false), (9, false), (10, false), (11, false), (12, false), (13, false), (14, false), (15, false)] (by kernel_rfl) (q1 P)) r_ret))
theorem ac (P : PT) (x0a : Int) (x0b : Value) (x1 x2 : Int) (H : AHeap) (h : B2 P x0a x0b x1 x2 H) : AC Tryd.prog T0 66 [(Value.agg ⟨[(Value.int .i64 x0a), x0b]⟩), (Value.int .i64 x1), (Value.int .i64 x2)] H P :=
  r_fn T0_ok (c := code) (n := 22) Tryd.func66 body (by kernel_rfl) (main P) (En_mk (x0a, x0b, x1, x2, ()) (by kernel_rfl) ⟨by kernel_rfl, by kernel_rfl, by kernel_rfl, trivial⟩ h)

end F66
-- loop.example/g01329/impl.areEdges
namespace F67
noncomputable def ret (P : PT) : EP := retE T0 20 Tryd.f67 P
abbrev k0 : Sk := [(1,.v),(2,.x)]
noncomputable def o1 := ob Tryd.f67 [.r,.l]
def B1 (P : PT) (x1 : Value) (x2 : Nat) (H : AHeap) : Prop :=
  ldI .i64 H x2 0 (fun v1 => AC Tryd.prog T0 76 [(Value.int .i64 v1)] H (fun v2 H3 => asB v2 (fun v4 => pif v4 (ldI .i64 H3 x2 0 (fun v5 => AC Tryd.prog T0 77 [x1] H3 (fun v6 H7 => asI .i64 v6 (fun v8 => (AHeap.le H3 H7) ∧ (pif ((v8 : Int) == (IntKind.i64.wrap (Int.tdiv (IntKind.i64.wrap (3 * v5)) 2))) (AC Tryd.prog T0 68 [x1, (Value.func (.func 78) ⟨[]⟩ ⟨[(Value.pointer (some ⟨x2, 0, none⟩))]⟩)] H7 (fun v9 H10 => asB v9 (fun v11 => P (Value.bool v11) H10))) (P (Value.bool false) H7)))))) (P (Value.bool false) H3))))
theorem q1 (P : PT) : QD Tryd.prog T0 20 o1 [(0, false), (1, false), (2, false), (3, false), (5, false), (6, false), (7, false), (4, true), (8, false), (9, false), (10, false), (11, false), (12, false), (13, false), (14, false), (15, false)] (ret P) k0 (B1 P) := fun _ _ _ _  => by kernel_rfl
abbrev k1 : Sk := [(0,.i .i64),(1,.v)]
noncomputable def o2 := ob Tryd.f67 [.l]
def B2 (P : PT) (x0 : Int) (x1 : Value) (H : AHeap) : Prop :=
  newK H [(Value.int .i64 x0)] 2 (fun b1 H2 => B1 P x1 b1 H2)
theorem q2 (P : PT) : QB Tryd.prog T0 20 o2 (En 20 k0 (B1 P)) k1 (B2 P) := fun _ _ _ _  => by kernel_rfl
noncomputable def code : Code := (.seq (.region 0 ⟨o2⟩ false) (.seq (.region 1 ⟨o1⟩ true) .ret))
theorem body : Tryd.f67.body = some code := by kernel_rfl
theorem main (P : PT) : ∀ env H, (En 20 k1 (B2 P)) env H → AW Tryd.prog T0 code env H (mkQ (ret P) (fun _ _ _ => False) (ret P)) :=
  (r_seq (rB T0_ok (q2 P)) (r_seq (rD T0_ok mixed [(0, false), (1, false), (2, false), (3, false), (5, false), (6, false), (7, false), (4, true), (8, false), (9, false), (10, false), (11, false), (12, false), (13, false), (14, false), (15, false)] (by kernel_rfl) (q1 P)) r_ret))
theorem ac (P : PT) (x0 : Int) (x1 : Value) (H : AHeap) (h : B2 P x0 x1 H) : AC Tryd.prog T0 67 [(Value.int .i64 x0), x1] H P :=
  r_fn T0_ok (c := code) (n := 20) Tryd.func67 body (by kernel_rfl) (main P) (En_mk (x0, x1, ()) (by kernel_rfl) ⟨by kernel_rfl, by kernel_rfl, trivial⟩ h)

end F67
-- loop.example/g01329/impl.areAll[loop.example/g01329/impl.Edge]
namespace F68
noncomputable def ret (P : PT) : EP := retE T0 9 Tryd.f68 P
abbrev k0 : Sk := [(0,.v),(3,.x)]
noncomputable def o1 := ob Tryd.f68 [.r,.l]
def B1 (P : PT) (x0 : Value) (x3 : Nat) (H : AHeap) : Prop :=
  AC Tryd.prog T0 80 [x0, (Value.func (.func 81) ⟨[]⟩ ⟨[(Value.pointer (some ⟨x3, 0, none⟩))]⟩)] H (fun v1 H2 => asB v1 (fun v3 => P (Value.bool (!v3)) H2))
theorem q1 (P : PT) : QB Tryd.prog T0 9 o1 (ret P) k0 (B1 P) := fun _ _ _ _  => by kernel_rfl
abbrev k1 : Sk := [(0,.v),(1,.v)]
noncomputable def o2 := ob Tryd.f68 [.l]
def B2 (P : PT) (x0 x1 : Value) (H : AHeap) : Prop :=
  pif (Value.oneCell' x1) (newK H [x1] 92 (fun b1 H2 => B1 P x0 b1 H2)) False
theorem q2 (P : PT) : QB Tryd.prog T0 9 o2 (En 9 k0 (B1 P)) k1 (B2 P) := fun _ _ _ _  => by kernel_rfl
noncomputable def code : Code := (.seq (.region 0 ⟨o2⟩ false) (.seq (.region 1 ⟨o1⟩ false) .ret))
theorem body : Tryd.f68.body = some code := by kernel_rfl
theorem main (P : PT) : ∀ env H, (En 9 k1 (B2 P)) env H → AW Tryd.prog T0 code env H (mkQ (ret P) (fun _ _ _ => False) (ret P)) :=
  (r_seq (rB T0_ok (q2 P)) (r_seq (rB T0_ok (q1 P)) r_ret))
theorem ac (P : PT) (x0 x1 : Value) (H : AHeap) (h : B2 P x0 x1 H) : AC Tryd.prog T0 68 [x0, x1] H P :=
  r_fn T0_ok (c := code) (n := 9) Tryd.func68 body (by kernel_rfl) (main P) (En_mk (x0, x1, ()) (by kernel_rfl) ⟨by kernel_rfl, by kernel_rfl, trivial⟩ h)

end F68
-- loop.example/g01329/impl.IsGraph$1
namespace F69
noncomputable def ret (P : PT) : EP := retE T0 8 Tryd.f69 P
abbrev k0 : Sk := [(1,.x)]
noncomputable def o1 := ob Tryd.f69 [.r,.l]
def B1 (P : PT) (x1 : Nat) (H : AHeap) : Prop :=
  ldI .i64 H x1 0 (fun v1 => ldI .i64 H x1 1 (fun v2 => P (Value.bool (decide ((v1 : Int) < v2))) H))
theorem q1 (P : PT) : QB Tryd.prog T0 8 o1 (ret P) k0 (B1 P) := fun _ _ _  => by kernel_rfl
abbrev k1 : Sk := [(0,.g [.i,.i])]
noncomputable def o2 := ob Tryd.f69 [.l]
def B2 (P : PT) (x0a x0b : Int) (H : AHeap) : Prop :=
  newK H [(Value.int .i64 x0a), (Value.int .i64 x0b)] 74 (fun b1 H2 => B1 P b1 H2)
theorem q2 (P : PT) : QB Tryd.prog T0 8 o2 (En 8 k0 (B1 P)) k1 (B2 P) := fun _ _ _ _  => by kernel_rfl
noncomputable def code : Code := (.seq (.region 0 ⟨o2⟩ false) (.seq (.region 1 ⟨o1⟩ false) .ret))
theorem body : Tryd.f69.body = some code := by kernel_rfl
theorem main (P : PT) : ∀ env H, (En 8 k1 (B2 P)) env H → AW Tryd.prog T0 code env H (mkQ (ret P) (fun _ _ _ => False) (ret P)) :=
  (r_seq (rB T0_ok (q2 P)) (r_seq (rB T0_ok (q1 P)) r_ret))
theorem ac (P : PT) (x0a x0b : Int) (H : AHeap) (h : B2 P x0a x0b H) : AC Tryd.prog T0 69 [(Value.agg ⟨[(Value.int .i64 x0a), (Value.int .i64 x0b)]⟩)] H P :=
  r_fn T0_ok (c := code) (n := 8) Tryd.func69 body (by kernel_rfl) (main P) (En_mk (x0a, x0b, ()) (by kernel_rfl) ⟨by kernel_rfl, trivial⟩ h)

end F69
-- slices.IsSortedFunc[[]loop.example/g01329/impl.Edge,loop.example/g01329/impl.Edge]
namespace F70
noncomputable def ret (P : PT) : EP := retE T0 25 Tryd.f70 P
abbrev k0 : Sk := []
noncomputable def o1 := ob Tryd.f70 [.r,.r,.l]
def B1 (P : PT) (H : AHeap) : Prop :=
  P (Value.bool true) H
theorem q1 (P : PT) : QB Tryd.prog T0 25 o1 (ret P) k0 (B1 P) := fun _ _  => by kernel_rfl
abbrev k1 : Sk := [(0,.v),(1,.v),(5,.i .i64)]
noncomputable def o3 := ob Tryd.f70 [.r,.l,.r,.l,.l,.r,.r]
def B3 (P : PT) (N2 : NTy k1 Pr) (x0 x1 : Value) (x5 : Int) (H : AHeap) : Prop :=
  N2 x0 x1 (IntKind.i64.wrap (x5 - 1)) H
theorem q3 (P : PT) (N2 : NTy k1 Pr) : QB Tryd.prog T0 25 o3 (En 25 k1 N2) k1 (B3 P N2) := fun _ _ _ _ _  => by kernel_rfl
noncomputable def o4 := ob Tryd.f70 [.r,.l,.r,.l,.l,.r,.l,.l,.r,.l,.l]
def B4 (P : PT) (N2 : NTy k1 Pr) (H : AHeap) : Prop :=
  P (Value.bool false) H
theorem q4 (P : PT) (N2 : NTy k1 Pr) : QB Tryd.prog T0 25 o4 (ret P) k0 (B4 P N2) := fun _ _  => by kernel_rfl
noncomputable def o5 := ob Tryd.f70 [.r,.l,.r,.l,.l,.r,.l,.l,.l]
def B5 (P : PT) (N2 : NTy k1 Pr) (x0 x1 : Value) (x5 : Int) (H : AHeap) : Prop :=
  idxK x0 x5 2 (fun b1 o2 => ldI .i64 H b1 o2 (fun v3 => ldI .i64 H b1 (o2 + 1) (fun v4 => idxK x0 (IntKind.i64.wrap (x5 - 1)) 2 (fun b5 o6 => ldI .i64 H b5 o6 (fun v7 => ldI .i64 H b5 (o6 + 1) (fun v8 => callV Tryd.prog T0 x1 [(Value.agg ⟨[(Value.int .i64 v3), (Value.int .i64 v4)]⟩), (Value.agg ⟨[(Value.int .i64 v7), (Value.int .i64 v8)]⟩)] H (fun v9 H10 => asI .i64 v9 (fun v11 => pif (decide ((v11 : Int) < 0)) (B4 P N2 H10) (B3 P N2 x0 x1 x5 H10)))))))))
theorem q5 (P : PT) (N2 : NTy k1 Pr) : QD Tryd.prog T0 25 o5 [(0, false), (1, false), (2, false), (3, false), (4, false), (5, false), (6, false), (7, false), (8, false), (9, false), (10, false), (11, false)] (cnd 24 (En 25 k0 (B4 P N2)) (En 25 k1 (B3 P N2))) k1 (B5 P N2) := fun _ _ _ _ _  => by kernel_rfl
noncomputable def o6 := ob Tryd.f70 [.r,.l,.r,.l,.l,.l,.l]
def B6 (P : PT) (N2 : NTy k1 Pr) (x0 x1 : Value) (x5 : Int) (H : AHeap) : Prop :=
  pif (decide ((x5 : Int) > 0)) (B5 P N2 x0 x1 x5 H) (B1 P H)
theorem q6 (P : PT) (N2 : NTy k1 Pr) : QB Tryd.prog T0 25 o6 (cnd 10 (En 25 k1 (B5 P N2)) (En 25 k0 (B1 P))) k1 (B6 P N2) := fun _ _ _ _ _  => by kernel_rfl
def L2 (P : PT) (x0 x1 : Value) (x5 : Int) (H : AHeap) : Prop :=
  ∃ (I : NTy k1 Pr) (μ : NTy k1 (AHeap → Nat)), I x0 x1 x5 H ∧ ∀ y0 y1 y5 G, I y0 y1 y5 G → B6 P (fun z0 z1 z5 G' => I z0 z1 z5 G' ∧ μ z0 z1 z5 G' < μ y0 y1 y5 G) y0 y1 y5 G
theorem l2 (P : PT) : LQ k1 (L2 P) (B6 P) := fun ⟨_,_,_,_⟩ _ ⟨I, μ, h0, hI⟩ => ⟨apT _ I, apT _ μ, h0, fun ⟨_,_,_,_⟩ _ h => hI _ _ _ _  h⟩
abbrev k2 : Sk := [(0,.v),(1,.v)]
noncomputable def o7 := ob Tryd.f70 [.r,.l,.l]
def B7 (P : PT) (x0 x1 : Value) (H : AHeap) : Prop :=
  lenK x0 (fun n1 => L2 P x0 x1 (IntKind.i64.wrap ((n1 : Int) - 1)) H)
theorem q7 (P : PT) : QB Tryd.prog T0 25 o7 (En 25 k1 (L2 P)) k2 (B7 P) := fun _ _ _ _  => by kernel_rfl
noncomputable def o8 := ob Tryd.f70 [.l]
def B8 (P : PT) (x0 x1 : Value) (H : AHeap) : Prop :=
  B7 P x0 x1 H
theorem q8 (P : PT) : QB Tryd.prog T0 25 o8 (En 25 k2 (B7 P)) k2 (B8 P) := fun _ _ _ _  => by kernel_rfl
noncomputable def code : Code := (.seq (.region 0 ⟨o8⟩ false) (.seq (.seq (.region 1 ⟨o7⟩ false) (.block 0 (.loop (.seq (.seq (.region 2 ⟨o6⟩ false) (.cond (.tmp 10) .skip (.exit 0))) (.seq (.block 1 (.seq (.region 4 ⟨o5⟩ true) (.cond (.tmp 24) (.seq (.region 5 ⟨o4⟩ false) .ret) .skip))) (.region 3 ⟨o3⟩ false)))))) (.seq (.region 6 ⟨o1⟩ false) .ret)))
theorem body : Tryd.f70.body = some code := by kernel_rfl
theorem main (P : PT) : ∀ env H, (En 25 k2 (B8 P)) env H → AW Tryd.prog T0 code env H (mkQ (ret P) (fun _ _ _ => False) (ret P)) :=
  (r_seq (rB T0_ok (q8 P)) (r_seq (r_seq (rB T0_ok (q7 P)) (r_block (rL (l2 P) (fun N2 => (r_seq (r_seq (rB T0_ok (q6 P N2)) (r_cond rfl r_skip (r_exit (fun _ _ h => h)))) (r_seq (r_block (r_seq (rD T0_ok mixed [(0, false), (1, false), (2, false), (3, false), (4, false), (5, false), (6, false), (7, false), (8, false), (9, false), (10, false), (11, false)] (by kernel_rfl) (q5 P N2)) (r_cond rfl (r_seq (rB T0_ok (q4 P N2)) r_ret) r_skip))) (rB T0_ok (q3 P N2)))))))) (r_seq (rB T0_ok (q1 P)) r_ret)))
theorem ac (P : PT) (x0 x1 : Value) (H : AHeap) (h : B8 P x0 x1 H) : AC Tryd.prog T0 70 [x0, x1] H P :=
  r_fn T0_ok (c := code) (n := 25) Tryd.func70 body (by kernel_rfl) (main P) (En_mk (x0, x1, ()) (by kernel_rfl) ⟨by kernel_rfl, by kernel_rfl, trivial⟩ h)

end F70
-- loop.example/g01329/impl.compareEdges
namespace F71
noncomputable def ret (P : PT) : EP := retE T0 8 Tryd.f71 P
abbrev k0 : Sk := [(2,.x),(3,.x)]
noncomputable def o1 := ob Tryd.f71 [.r,.l]
def B1 (P : PT) (x2 x3 : Nat) (H : AHeap) : Prop :=
  AC Tryd.prog T0 82 [(Value.slice (some ⟨x2, 0, none⟩) 2 (2 + 1)), (Value.slice (some ⟨x3, 0, none⟩) 2 (2 + 1))] H (fun v1 H2 => asI .i64 v1 (fun v3 => P (Value.int .i64 v3) H2))
theorem q1 (P : PT) : QD Tryd.prog T0 8 o1 [(0, false), (1, false), (2, false), (3, false)] (ret P) k0 (B1 P) := fun _ _ _ _  => by kernel_rfl
abbrev k1 : Sk := [(0,.g [.i,.i]),(1,.g [.i,.i])]
noncomputable def o2 := ob Tryd.f71 [.l]
def B2 (P : PT) (x0a x0b x1a x1b : Int) (H : AHeap) : Prop :=
  newK H [(Value.int .i64 x0a), (Value.int .i64 x0b)] 74 (fun b1 H2 => newK H2 [(Value.int .i64 x1a), (Value.int .i64 x1b)] 74 (fun b3 H4 => B1 P b1 b3 H4))
theorem q2 (P : PT) : QB Tryd.prog T0 8 o2 (En 8 k0 (B1 P)) k1 (B2 P) := fun _ _ _ _ _ _  => by kernel_rfl
noncomputable def code : Code := (.seq (.region 0 ⟨o2⟩ false) (.seq (.region 1 ⟨o1⟩ true) .ret))
theorem body : Tryd.f71.body = some code := by kernel_rfl
theorem main (P : PT) : ∀ env H, (En 8 k1 (B2 P)) env H → AW Tryd.prog T0 code env H (mkQ (ret P) (fun _ _ _ => False) (ret P)) :=
  (r_seq (rB T0_ok (q2 P)) (r_seq (rD T0_ok mixed [(0, false), (1, false), (2, false), (3, false)] (by kernel_rfl) (q1 P)) r_ret))
theorem ac (P : PT) (x0a x0b x1a x1b : Int) (H : AHeap) (h : B2 P x0a x0b x1a x1b H) : AC Tryd.prog T0 71 [(Value.agg ⟨[(Value.int .i64 x0a), (Value.int .i64 x0b)]⟩), (Value.agg ⟨[(Value.int .i64 x1a), (Value.int .i64 x1b)]⟩)] H P :=
  r_fn T0_ok (c := code) (n := 8) Tryd.func71 body (by kernel_rfl) (main P) (En_mk (x0a, x0b, x1a, x1b, ()) (by kernel_rfl) ⟨by kernel_rfl, by kernel_rfl, trivial⟩ h)

end F71
-- loop.example/g01329/impl.isCubic
namespace F72
noncomputable def ret (P : PT) : EP := retE T0 33 Tryd.f72 P
abbrev k0 : Sk := [(5,.v)]
noncomputable def o1 := ob Tryd.f72 [.r,.r,.r,.l]
def B1 (P : PT) (x5 : Value) (H : AHeap) : Prop :=
  AC Tryd.prog T0 83 [x5, (Value.func (.func 84) ⟨[]⟩ ⟨[]⟩)] H (fun v1 H2 => asB v1 (fun v3 => P (Value.bool v3) H2))
theorem q1 (P : PT) : QB Tryd.prog T0 33 o1 (ret P) k0 (B1 P) := fun _ _ _  => by kernel_rfl
abbrev k1 : Sk := [(5,.v),(10,.v),(11,.i .i64),(12,.i .i64)]
noncomputable def o3 := ob Tryd.f72 [.r,.r,.l,.r,.l,.l,.r,.r,.r]
def B3 (P : PT) (N2 : NTy k1 Pr) (x5 x10 : Value) (x11 x12 : Int) (H : AHeap) : Prop :=
  N2 x5 x10 x11 (IntKind.i64.wrap (x12 + 1)) H
theorem q3 (P : PT) (N2 : NTy k1 Pr) : QB Tryd.prog T0 33 o3 (En 33 k1 N2) k1 (B3 P N2) := fun _ _ _ _ _ _  => by kernel_rfl
abbrev k2 : Sk := [(5,.v),(7,.x),(10,.v),(11,.i .i64),(12,.i .i64)]
noncomputable def o4 := ob Tryd.f72 [.r,.r,.l,.r,.l,.l,.r,.r,.l,.l,.r,.r]
def B4 (P : PT) (N2 : NTy k1 Pr) (x5 : Value) (x7 : Nat) (x10 : Value) (x11 x12 : Int) (H : AHeap) : Prop :=
  ldI .i64 H x7 1 (fun v1 => idxK x5 v1 1 (fun b2 o3 => ldI .i64 H b2 o3 (fun v4 => idxK x5 v1 1 (fun b5 o6 => stK H b5 o6 [(Value.int .i64 (IntKind.i64.wrap (v4 + 1)))] (fun H7 => B3 P N2 x5 x10 x11 x12 H7)))))
theorem q4 (P : PT) (N2 : NTy k1 Pr) : QB Tryd.prog T0 33 o4 (En 33 k1 (B3 P N2)) k2 (B4 P N2) := fun _ _ _ _ _ _ _  => by kernel_rfl
noncomputable def o5 := ob Tryd.f72 [.r,.r,.l,.r,.l,.l,.r,.r,.l,.l,.r,.l]
def B5 (P : PT) (N2 : NTy k1 Pr) (x5 : Value) (x7 : Nat) (x10 : Value) (x11 x12 : Int) (H : AHeap) : Prop :=
  ldI .i64 H x7 0 (fun v1 => idxK x5 v1 1 (fun b2 o3 => ldI .i64 H b2 o3 (fun v4 => idxK x5 v1 1 (fun b5 o6 => stK H b5 o6 [(Value.int .i64 (IntKind.i64.wrap (v4 + 1)))] (fun H7 => B4 P N2 x5 x7 x10 x11 x12 H7)))))
theorem q5 (P : PT) (N2 : NTy k1 Pr) : QB Tryd.prog T0 33 o5 (En 33 k2 (B4 P N2)) k2 (B5 P N2) := fun _ _ _ _ _ _ _  => by kernel_rfl
noncomputable def o6 := ob Tryd.f72 [.r,.r,.l,.r,.l,.l,.r,.r,.l,.l,.l]
def B6 (P : PT) (N2 : NTy k1 Pr) (x5 x10 : Value) (x11 x12 : Int) (H : AHeap) : Prop :=
  idxK x10 x12 2 (fun b1 o2 => ldI .i64 H b1 o2 (fun v3 => ldI .i64 H b1 (o2 + 1) (fun v4 => newK H [(Value.int .i64 0), (Value.int .i64 0)] 74 (fun b5 H6 => stK H6 b5 0 [(Value.int .i64 v3), (Value.int .i64 v4)] (fun H7 => B5 P N2 x5 b5 x10 x11 x12 H7)))))
theorem q6 (P : PT) (N2 : NTy k1 Pr) : QB Tryd.prog T0 33 o6 (En 33 k2 (B5 P N2)) k1 (B6 P N2) := fun _ _ _ _ _ _  => by kernel_rfl
noncomputable def o7 := ob Tryd.f72 [.r,.r,.l,.r,.l,.l,.l]
def B7 (P : PT) (N2 : NTy k1 Pr) (x5 x10 : Value) (x11 x12 : Int) (H : AHeap) : Prop :=
  pif (decide ((x12 : Int) < x11)) (B6 P N2 x5 x10 x11 x12 H) (B1 P x5 H)
theorem q7 (P : PT) (N2 : NTy k1 Pr) : QB Tryd.prog T0 33 o7 (cnd 13 (En 33 k1 (B6 P N2)) (En 33 k0 (B1 P))) k1 (B7 P N2) := fun _ _ _ _ _ _  => by kernel_rfl
def L2 (P : PT) (x5 x10 : Value) (x11 x12 : Int) (H : AHeap) : Prop :=
  ∃ (I : NTy k1 Pr) (μ : NTy k1 (AHeap → Nat)), I x5 x10 x11 x12 H ∧ ∀ y5 y10 y11 y12 G, I y5 y10 y11 y12 G → B7 P (fun z5 z10 z11 z12 G' => I z5 z10 z11 z12 G' ∧ μ z5 z10 z11 z12 G' < μ y5 y10 y11 y12 G) y5 y10 y11 y12 G
theorem l2 (P : PT) : LQ k1 (L2 P) (B7 P) := fun ⟨_,_,_,_,_⟩ _ ⟨I, μ, h0, hI⟩ => ⟨apT _ I, apT _ μ, h0, fun ⟨_,_,_,_,_⟩ _ h => hI _ _ _ _ _  h⟩
abbrev k3 : Sk := [(1,.v),(5,.v)]
noncomputable def o8 := ob Tryd.f72 [.r,.r,.l,.l]
def B8 (P : PT) (x1 x5 : Value) (H : AHeap) : Prop :=
  lenK x1 (fun n1 => L2 P x5 x1 (n1 : Int) 0 H)
theorem q8 (P : PT) : QB Tryd.prog T0 33 o8 (En 33 k1 (L2 P)) k3 (B8 P) := fun _ _ _ _  => by kernel_rfl
abbrev k4 : Sk := [(0,.i .i64),(1,.v)]
noncomputable def o9 := ob Tryd.f72 [.r,.l]
def B9 (P : PT) (x0 : Int) (x1 : Value) (H : AHeap) : Prop :=
  mkR H 8 3 [(Value.int .i64 0)] x0 x0 (fun v2 H1 => B8 P x1 v2 H1)
theorem q9 (P : PT) : QB Tryd.prog T0 33 o9 (En 33 k3 (B8 P)) k4 (B9 P) := fun _ _ _ _  => by kernel_rfl
noncomputable def o10 := ob Tryd.f72 [.l]
def B10 (P : PT) (x0 : Int) (x1 : Value) (H : AHeap) : Prop :=
  B9 P x0 x1 H
theorem q10 (P : PT) : QB Tryd.prog T0 33 o10 (En 33 k4 (B9 P)) k4 (B10 P) := fun _ _ _ _  => by kernel_rfl
noncomputable def code : Code := (.seq (.region 0 ⟨o10⟩ false) (.seq (.region 1 ⟨o9⟩ false) (.seq (.seq (.region 2 ⟨o8⟩ false) (.block 0 (.loop (.seq (.region 3 ⟨o7⟩ false) (.seq (.cond (.tmp 13) .skip (.exit 0)) (.seq (.block 1 (.seq (.region 4 ⟨o6⟩ false) (.seq (.region 5 ⟨o5⟩ false) (.region 6 ⟨o4⟩ false)))) (.region 7 ⟨o3⟩ false))))))) (.seq (.region 8 ⟨o1⟩ false) .ret))))
theorem body : Tryd.f72.body = some code := by kernel_rfl
theorem main (P : PT) : ∀ env H, (En 33 k4 (B10 P)) env H → AW Tryd.prog T0 code env H (mkQ (ret P) (fun _ _ _ => False) (ret P)) :=
  (r_seq (rB T0_ok (q10 P)) (r_seq (rB T0_ok (q9 P)) (r_seq (r_seq (rB T0_ok (q8 P)) (r_block (rL (l2 P) (fun N2 => (r_seq (rB T0_ok (q7 P N2)) (r_seq (r_cond rfl r_skip (r_exit (fun _ _ h => h))) (r_seq (r_block (r_seq (rB T0_ok (q6 P N2)) (r_seq (rB T0_ok (q5 P N2)) (rB T0_ok (q4 P N2))))) (rB T0_ok (q3 P N2))))))))) (r_seq (rB T0_ok (q1 P)) r_ret))))
theorem ac (P : PT) (x0 : Int) (x1 : Value) (H : AHeap) (h : B10 P x0 x1 H) : AC Tryd.prog T0 72 [(Value.int .i64 x0), x1] H P :=
  r_fn T0_ok (c := code) (n := 33) Tryd.func72 body (by kernel_rfl) (main P) (En_mk (x0, x1, ()) (by kernel_rfl) ⟨by kernel_rfl, by kernel_rfl, trivial⟩ h)

end F72
-- (loop.example/g01329/impl.Edge).isOn
namespace F73
noncomputable def ret (P : PT) : EP := retE T0 15 Tryd.f73 P
abbrev k0 : Sk := [(1,.i .i64),(2,.x)]
noncomputable def o1 := ob Tryd.f73 [.r,.l]
def B1 (P : PT) (x1 : Int) (x2 : Nat) (H : AHeap) : Prop :=
  ldI .i64 H x2 0 (fun v1 => pif ((v1 : Int) == x1) (P (Value.bool true) H) (ldI .i64 H x2 1 (fun v2 => P (Value.bool ((v2 : Int) == x1)) H)))
theorem q1 (P : PT) : QB Tryd.prog T0 15 o1 (ret P) k0 (B1 P) := fun _ _ _ _  => by kernel_rfl
abbrev k1 : Sk := [(0,.g [.i,.i]),(1,.i .i64)]
noncomputable def o2 := ob Tryd.f73 [.l]
def B2 (P : PT) (x0a x0b x1 : Int) (H : AHeap) : Prop :=
  newK H [(Value.int .i64 x0a), (Value.int .i64 x0b)] 74 (fun b1 H2 => B1 P x1 b1 H2)
theorem q2 (P : PT) : QB Tryd.prog T0 15 o2 (En 15 k0 (B1 P)) k1 (B2 P) := fun _ _ _ _ _  => by kernel_rfl
noncomputable def code : Code := (.seq (.region 0 ⟨o2⟩ false) (.seq (.region 1 ⟨o1⟩ false) .ret))
theorem body : Tryd.f73.body = some code := by kernel_rfl
theorem main (P : PT) : ∀ env H, (En 15 k1 (B2 P)) env H → AW Tryd.prog T0 code env H (mkQ (ret P) (fun _ _ _ => False) (ret P)) :=
  (r_seq (rB T0_ok (q2 P)) (r_seq (rB T0_ok (q1 P)) r_ret))
theorem ac (P : PT) (x0a x0b x1 : Int) (H : AHeap) (h : B2 P x0a x0b x1 H) : AC Tryd.prog T0 73 [(Value.agg ⟨[(Value.int .i64 x0a), (Value.int .i64 x0b)]⟩), (Value.int .i64 x1)] H P :=
  r_fn T0_ok (c := code) (n := 15) Tryd.func73 body (by kernel_rfl) (main P) (En_mk (x0a, x0b, x1, ()) (by kernel_rfl) ⟨by kernel_rfl, by kernel_rfl, trivial⟩ h)

end F73
-- (loop.example/g01329/impl.Graph).left
namespace F74
noncomputable def ret (P : PT) : EP := retE T0 11 Tryd.f74 P
abbrev k0 : Sk := [(1,.i .u64),(2,.x)]
noncomputable def o1 := ob Tryd.f74 [.r,.l]
def B1 (P : PT) (x1 : Int) (x2 : Nat) (H : AHeap) : Prop :=
  ldI .i64 H x2 0 (fun v1 => ld1 H x2 1 (fun v2 => ldI .i64 H x2 0 (fun v3 => ld1 H x2 1 (fun v4 => AC Tryd.prog T0 31 [(Value.agg ⟨[(Value.int .i64 v3), v4]⟩)] H (fun v5 H6 => asI .u64 v5 (fun v7 => (AHeap.le H H6) ∧ (AC Tryd.prog T0 85 [(Value.agg ⟨[(Value.int .i64 v1), v2]⟩), (Value.int .u64 (IntKind.u64.wrap (BitVec.ofInt 64 v7 &&& ~~~(BitVec.ofInt 64 x1)).toNat))] H6 (fun v8 H9 => P v8 H9))))))))
theorem q1 (P : PT) : QD Tryd.prog T0 11 o1 [(0, false), (1, false), (3, false), (2, true), (4, false), (5, false), (6, false)] (ret P) k0 (B1 P) := fun _ _ _ _  => by kernel_rfl
abbrev k1 : Sk := [(0,.g [.i,.v]),(1,.i .u64)]
noncomputable def o2 := ob Tryd.f74 [.l]
def B2 (P : PT) (x0a : Int) (x0b : Value) (x1 : Int) (H : AHeap) : Prop :=
  newK H [(Value.int .i64 x0a), x0b] 31 (fun b1 H2 => B1 P x1 b1 H2)
theorem q2 (P : PT) : QB Tryd.prog T0 11 o2 (En 11 k0 (B1 P)) k1 (B2 P) := fun _ _ _ _ _  => by kernel_rfl
noncomputable def code : Code := (.seq (.region 0 ⟨o2⟩ false) (.seq (.region 1 ⟨o1⟩ true) .ret))
theorem body : Tryd.f74.body = some code := by kernel_rfl
theorem main (P : PT) : ∀ env H, (En 11 k1 (B2 P)) env H → AW Tryd.prog T0 code env H (mkQ (ret P) (fun _ _ _ => False) (ret P)) :=
  (r_seq (rB T0_ok (q2 P)) (r_seq (rD T0_ok mixed [(0, false), (1, false), (3, false), (2, true), (4, false), (5, false), (6, false)] (by kernel_rfl) (q1 P)) r_ret))
theorem ac (P : PT) (x0a : Int) (x0b : Value) (x1 : Int) (H : AHeap) (h : B2 P x0a x0b x1 H) : AC Tryd.prog T0 74 [(Value.agg ⟨[(Value.int .i64 x0a), x0b]⟩), (Value.int .u64 x1)] H P :=
  r_fn T0_ok (c := code) (n := 11) Tryd.func74 body (by kernel_rfl) (main P) (En_mk (x0a, x0b, x1, ()) (by kernel_rfl) ⟨by kernel_rfl, by kernel_rfl, trivial⟩ h)

end F74
-- (loop.example/g01329/impl.set).size
namespace F75
noncomputable def ret (P : PT) : EP := retE T0 5 Tryd.f75 P
abbrev k0 : Sk := [(0,.i .u64)]
noncomputable def o1 := ob Tryd.f75 [.r,.l]
def B1 (P : PT) (x0 : Int) (H : AHeap) : Prop :=
  AC Tryd.prog T0 86 [(Value.int .u64 x0)] H (fun v1 H2 => asI .i64 v1 (fun v3 => P (Value.int .i64 v3) H2))
theorem q1 (P : PT) : QB Tryd.prog T0 5 o1 (ret P) k0 (B1 P) := fun _ _ _  => by kernel_rfl
noncomputable def o2 := ob Tryd.f75 [.l]
def B2 (P : PT) (x0 : Int) (H : AHeap) : Prop :=
  B1 P x0 H
theorem q2 (P : PT) : QB Tryd.prog T0 5 o2 (En 5 k0 (B1 P)) k0 (B2 P) := fun _ _ _  => by kernel_rfl
noncomputable def code : Code := (.seq (.region 0 ⟨o2⟩ false) (.seq (.region 1 ⟨o1⟩ false) .ret))
theorem body : Tryd.f75.body = some code := by kernel_rfl
theorem main (P : PT) : ∀ env H, (En 5 k0 (B2 P)) env H → AW Tryd.prog T0 code env H (mkQ (ret P) (fun _ _ _ => False) (ret P)) :=
  (r_seq (rB T0_ok (q2 P)) (r_seq (rB T0_ok (q1 P)) r_ret))
theorem ac (P : PT) (x0 : Int) (H : AHeap) (h : B2 P x0 H) : AC Tryd.prog T0 75 [(Value.int .u64 x0)] H P :=
  r_fn T0_ok (c := code) (n := 5) Tryd.func75 body (by kernel_rfl) (main P) (En_mk (x0, ()) (by kernel_rfl) ⟨by kernel_rfl, trivial⟩ h)

end F75
-- loop.example/g01329/impl.isSize
namespace F76
noncomputable def ret (P : PT) : EP := retE T0 10 Tryd.f76 P
abbrev k0 : Sk := [(0,.i .i64)]
noncomputable def o1 := ob Tryd.f76 [.r,.l]
def B1 (P : PT) (x0 : Int) (H : AHeap) : Prop :=
  AC Tryd.prog T0 79 [(Value.int .i64 x0), (Value.int .i64 2), (Value.int .i64 20)] H (fun v1 H2 => asB v1 (fun v3 => pif v3 (P (Value.bool ((Int.tmod x0 2 : Int) == 0)) H2) (P (Value.bool false) H2)))
theorem q1 (P : PT) : QB Tryd.prog T0 10 o1 (ret P) k0 (B1 P) := fun _ _ _  => by kernel_rfl
noncomputable def o2 := ob Tryd.f76 [.l]
def B2 (P : PT) (x0 : Int) (H : AHeap) : Prop :=
  B1 P x0 H
theorem q2 (P : PT) : QB Tryd.prog T0 10 o2 (En 10 k0 (B1 P)) k0 (B2 P) := fun _ _ _  => by kernel_rfl
noncomputable def code : Code := (.seq (.region 0 ⟨o2⟩ false) (.seq (.region 1 ⟨o1⟩ false) .ret))
theorem body : Tryd.f76.body = some code := by kernel_rfl
theorem main (P : PT) : ∀ env H, (En 10 k0 (B2 P)) env H → AW Tryd.prog T0 code env H (mkQ (ret P) (fun _ _ _ => False) (ret P)) :=
  (r_seq (rB T0_ok (q2 P)) (r_seq (rB T0_ok (q1 P)) r_ret))
theorem ac (P : PT) (x0 : Int) (H : AHeap) (h : B2 P x0 H) : AC Tryd.prog T0 76 [(Value.int .i64 x0)] H P :=
  r_fn T0_ok (c := code) (n := 10) Tryd.func76 body (by kernel_rfl) (main P) (En_mk (x0, ()) (by kernel_rfl) ⟨by kernel_rfl, trivial⟩ h)

end F76
-- loop.example/g01329/impl.length[loop.example/g01329/impl.Edge]
namespace F77
noncomputable def ret (P : PT) : EP := retE T0 5 Tryd.f77 P
abbrev k0 : Sk := [(0,.v)]
noncomputable def o1 := ob Tryd.f77 [.r,.l]
def B1 (P : PT) (x0 : Value) (H : AHeap) : Prop :=
  lenK x0 (fun n1 => P (Value.int .i64 (n1 : Int)) H)
theorem q1 (P : PT) : QB Tryd.prog T0 5 o1 (ret P) k0 (B1 P) := fun _ _ _  => by kernel_rfl
noncomputable def o2 := ob Tryd.f77 [.l]
def B2 (P : PT) (x0 : Value) (H : AHeap) : Prop :=
  B1 P x0 H
theorem q2 (P : PT) : QB Tryd.prog T0 5 o2 (En 5 k0 (B1 P)) k0 (B2 P) := fun _ _ _  => by kernel_rfl
noncomputable def code : Code := (.seq (.region 0 ⟨o2⟩ false) (.seq (.region 1 ⟨o1⟩ false) .ret))
theorem body : Tryd.f77.body = some code := by kernel_rfl
theorem main (P : PT) : ∀ env H, (En 5 k0 (B2 P)) env H → AW Tryd.prog T0 code env H (mkQ (ret P) (fun _ _ _ => False) (ret P)) :=
  (r_seq (rB T0_ok (q2 P)) (r_seq (rB T0_ok (q1 P)) r_ret))
theorem ac (P : PT) (x0 : Value) (H : AHeap) (h : B2 P x0 H) : AC Tryd.prog T0 77 [x0] H P :=
  r_fn T0_ok (c := code) (n := 5) Tryd.func77 body (by kernel_rfl) (main P) (En_mk (x0, ()) (by kernel_rfl) ⟨by kernel_rfl, trivial⟩ h)

end F77
-- loop.example/g01329/impl.areEdges$1
namespace F78
noncomputable def ret (P : PT) : EP := retE T0 23 Tryd.f78 P
abbrev k0 : Sk := [(1,.v),(2,.x)]
noncomputable def o1 := ob Tryd.f78 [.r,.l]
def B1 (P : PT) (x1 : Value) (x2 : Nat) (H : AHeap) : Prop :=
  ldI .i64 H x2 0 (fun v1 => asP x1 (fun b2 o3 => ldI .i64 H b2 o3 (fun v4 => AC Tryd.prog T0 79 [(Value.int .i64 v1), (Value.int .i64 0), (Value.int .i64 (IntKind.i64.wrap (v4 - 1)))] H (fun v5 H6 => asB v5 (fun v7 => pif v7 (ldI .i64 H6 x2 1 (fun v8 => asP x1 (fun b9 o10 => ldI .i64 H6 b9 o10 (fun v11 => AC Tryd.prog T0 79 [(Value.int .i64 v8), (Value.int .i64 0), (Value.int .i64 (IntKind.i64.wrap (v11 - 1)))] H6 (fun v12 H13 => asB v12 (fun v14 => pif v14 (ldI .i64 H13 x2 0 (fun v15 => ldI .i64 H13 x2 1 (fun v16 => P (Value.bool ((v15 : Int) != v16)) H13))) (P (Value.bool false) H13))))))) (P (Value.bool false) H6))))))
theorem q1 (P : PT) : QB Tryd.prog T0 23 o1 (ret P) k0 (B1 P) := fun _ _ _ _  => by kernel_rfl
abbrev k1 : Sk := [(0,.g [.i,.i]),(1,.v)]
noncomputable def o2 := ob Tryd.f78 [.l]
def B2 (P : PT) (x0a x0b : Int) (x1 : Value) (H : AHeap) : Prop :=
  newK H [(Value.int .i64 x0a), (Value.int .i64 x0b)] 74 (fun b1 H2 => B1 P x1 b1 H2)
theorem q2 (P : PT) : QB Tryd.prog T0 23 o2 (En 23 k0 (B1 P)) k1 (B2 P) := fun _ _ _ _ _  => by kernel_rfl
noncomputable def code : Code := (.seq (.region 0 ⟨o2⟩ false) (.seq (.region 1 ⟨o1⟩ false) .ret))
theorem body : Tryd.f78.body = some code := by kernel_rfl
theorem main (P : PT) : ∀ env H, (En 23 k1 (B2 P)) env H → AW Tryd.prog T0 code env H (mkQ (ret P) (fun _ _ _ => False) (ret P)) :=
  (r_seq (rB T0_ok (q2 P)) (r_seq (rB T0_ok (q1 P)) r_ret))
theorem ac (P : PT) (x0a x0b : Int) (x1 : Value) (H : AHeap) (h : B2 P x0a x0b x1 H) : AC Tryd.prog T0 78 [(Value.agg ⟨[(Value.int .i64 x0a), (Value.int .i64 x0b)]⟩), x1] H P :=
  r_fn T0_ok (c := code) (n := 23) Tryd.func78 body (by kernel_rfl) (main P) (En_mk (x0a, x0b, x1, ()) (by kernel_rfl) ⟨by kernel_rfl, by kernel_rfl, trivial⟩ h)

end F78
-- loop.example/g01329/impl.within
namespace F79
noncomputable def ret (P : PT) : EP := retE T0 15 Tryd.f79 P
abbrev k0 : Sk := [(0,.i .i64),(1,.i .i64),(2,.i .i64)]
noncomputable def o1 := ob Tryd.f79 [.r,.l]
def B1 (P : PT) (x0 x1 x2 : Int) (H : AHeap) : Prop :=
  pif (decide ((x1 : Int) ≤ x0)) (P (Value.bool (decide ((x0 : Int) ≤ x2))) H) (P (Value.bool false) H)
theorem q1 (P : PT) : QB Tryd.prog T0 15 o1 (ret P) k0 (B1 P) := fun _ _ _ _ _  => by kernel_rfl
noncomputable def o2 := ob Tryd.f79 [.l]
def B2 (P : PT) (x0 x1 x2 : Int) (H : AHeap) : Prop :=
  B1 P x0 x1 x2 H
theorem q2 (P : PT) : QB Tryd.prog T0 15 o2 (En 15 k0 (B1 P)) k0 (B2 P) := fun _ _ _ _ _  => by kernel_rfl
noncomputable def code : Code := (.seq (.region 0 ⟨o2⟩ false) (.seq (.region 1 ⟨o1⟩ false) .ret))
theorem body : Tryd.f79.body = some code := by kernel_rfl
theorem main (P : PT) : ∀ env H, (En 15 k0 (B2 P)) env H → AW Tryd.prog T0 code env H (mkQ (ret P) (fun _ _ _ => False) (ret P)) :=
  (r_seq (rB T0_ok (q2 P)) (r_seq (rB T0_ok (q1 P)) r_ret))
theorem ac (P : PT) (x0 x1 x2 : Int) (H : AHeap) (h : B2 P x0 x1 x2 H) : AC Tryd.prog T0 79 [(Value.int .i64 x0), (Value.int .i64 x1), (Value.int .i64 x2)] H P :=
  r_fn T0_ok (c := code) (n := 15) Tryd.func79 body (by kernel_rfl) (main P) (En_mk (x0, x1, x2, ()) (by kernel_rfl) ⟨by kernel_rfl, by kernel_rfl, by kernel_rfl, trivial⟩ h)

end F79
-- slices.ContainsFunc[[]loop.example/g01329/impl.Edge,loop.example/g01329/impl.Edge]
namespace F80
noncomputable def ret (P : PT) : EP := retE T0 9 Tryd.f80 P
abbrev k0 : Sk := [(0,.v),(1,.v)]
noncomputable def o1 := ob Tryd.f80 [.r,.l]
def B1 (P : PT) (x0 x1 : Value) (H : AHeap) : Prop :=
  AC Tryd.prog T0 87 [x0, x1] H (fun v1 H2 => asI .i64 v1 (fun v3 => P (Value.bool (decide ((v3 : Int) ≥ 0))) H2))
theorem q1 (P : PT) : QB Tryd.prog T0 9 o1 (ret P) k0 (B1 P) := fun _ _ _ _  => by kernel_rfl
noncomputable def o2 := ob Tryd.f80 [.l]
def B2 (P : PT) (x0 x1 : Value) (H : AHeap) : Prop :=
  B1 P x0 x1 H
theorem q2 (P : PT) : QB Tryd.prog T0 9 o2 (En 9 k0 (B1 P)) k0 (B2 P) := fun _ _ _ _  => by kernel_rfl
noncomputable def code : Code := (.seq (.region 0 ⟨o2⟩ false) (.seq (.region 1 ⟨o1⟩ false) .ret))
theorem body : Tryd.f80.body = some code := by kernel_rfl
theorem main (P : PT) : ∀ env H, (En 9 k0 (B2 P)) env H → AW Tryd.prog T0 code env H (mkQ (ret P) (fun _ _ _ => False) (ret P)) :=
  (r_seq (rB T0_ok (q2 P)) (r_seq (rB T0_ok (q1 P)) r_ret))
theorem ac (P : PT) (x0 x1 : Value) (H : AHeap) (h : B2 P x0 x1 H) : AC Tryd.prog T0 80 [x0, x1] H P :=
  r_fn T0_ok (c := code) (n := 9) Tryd.func80 body (by kernel_rfl) (main P) (En_mk (x0, x1, ()) (by kernel_rfl) ⟨by kernel_rfl, by kernel_rfl, trivial⟩ h)

end F80
-- loop.example/g01329/impl.areAll[loop.example/g01329/impl.Edge]$1
namespace F81
noncomputable def ret (P : PT) : EP := retE T0 8 Tryd.f81 P
abbrev k0 : Sk := [(1,.v),(2,.x)]
noncomputable def o1 := ob Tryd.f81 [.r,.l]
def B1 (P : PT) (x1 : Value) (x2 : Nat) (H : AHeap) : Prop :=
  asP x1 (fun b1 o2 => ld1 H b1 o2 (fun v3 => ldI .i64 H x2 0 (fun v4 => ldI .i64 H x2 1 (fun v5 => callV Tryd.prog T0 v3 [(Value.agg ⟨[(Value.int .i64 v4), (Value.int .i64 v5)]⟩)] H (fun v6 H7 => asB v6 (fun v8 => P (Value.bool (!v8)) H7))))))
theorem q1 (P : PT) : QB Tryd.prog T0 8 o1 (ret P) k0 (B1 P) := fun _ _ _ _  => by kernel_rfl
abbrev k1 : Sk := [(0,.g [.i,.i]),(1,.v)]
noncomputable def o2 := ob Tryd.f81 [.l]
def B2 (P : PT) (x0a x0b : Int) (x1 : Value) (H : AHeap) : Prop :=
  newK H [(Value.int .i64 x0a), (Value.int .i64 x0b)] 74 (fun b1 H2 => B1 P x1 b1 H2)
theorem q2 (P : PT) : QB Tryd.prog T0 8 o2 (En 8 k0 (B1 P)) k1 (B2 P) := fun _ _ _ _ _  => by kernel_rfl
noncomputable def code : Code := (.seq (.region 0 ⟨o2⟩ false) (.seq (.region 1 ⟨o1⟩ false) .ret))
theorem body : Tryd.f81.body = some code := by kernel_rfl
theorem main (P : PT) : ∀ env H, (En 8 k1 (B2 P)) env H → AW Tryd.prog T0 code env H (mkQ (ret P) (fun _ _ _ => False) (ret P)) :=
  (r_seq (rB T0_ok (q2 P)) (r_seq (rB T0_ok (q1 P)) r_ret))
theorem ac (P : PT) (x0a x0b : Int) (x1 : Value) (H : AHeap) (h : B2 P x0a x0b x1 H) : AC Tryd.prog T0 81 [(Value.agg ⟨[(Value.int .i64 x0a), (Value.int .i64 x0b)]⟩), x1] H P :=
  r_fn T0_ok (c := code) (n := 8) Tryd.func81 body (by kernel_rfl) (main P) (En_mk (x0a, x0b, x1, ()) (by kernel_rfl) ⟨by kernel_rfl, by kernel_rfl, trivial⟩ h)

end F81
-- slices.Compare[[]int64,int64]
namespace F82
noncomputable def ret (P : PT) : EP := retE T0 36 Tryd.f82 P
abbrev k0 : Sk := []
noncomputable def o1 := ob Tryd.f82 [.r,.r,.r,.l]
def B1 (P : PT) (H : AHeap) : Prop :=
  P (Value.int .i64 0) H
theorem q1 (P : PT) : QB Tryd.prog T0 36 o1 (ret P) k0 (B1 P) := fun _ _  => by kernel_rfl
noncomputable def o2 := ob Tryd.f82 [.r,.r,.l,.r,.l,.l]
def B2 (P : PT) (H : AHeap) : Prop :=
  P (Value.int .i64 (-1)) H
theorem q2 (P : PT) : QB Tryd.prog T0 36 o2 (ret P) k0 (B2 P) := fun _ _  => by kernel_rfl
abbrev k1 : Sk := [(0,.v),(1,.v)]
noncomputable def o3 := ob Tryd.f82 [.r,.r,.l,.l]
def B3 (P : PT) (x0 x1 : Value) (H : AHeap) : Prop :=
  lenK x0 (fun n1 => lenK x1 (fun n2 => pif (decide (((n1 : Int) : Int) < (n2 : Int))) (B2 P H) (B1 P H)))
theorem q3 (P : PT) : QB Tryd.prog T0 36 o3 (cnd 35 (En 36 k0 (B2 P)) (En 36 k0 (B1 P))) k1 (B3 P) := fun _ _ _ _  => by kernel_rfl
abbrev k2 : Sk := [(0,.v),(1,.v),(9,.v),(10,.i .i64),(11,.i .i64)]
noncomputable def o5 := ob Tryd.f82 [.r,.l,.r,.l,.l,.r,.r,.r]
def B5 (P : PT) (N4 : NTy k2 Pr) (x0 x1 x9 : Value) (x10 x11 : Int) (H : AHeap) : Prop :=
  N4 x0 x1 x9 x10 (IntKind.i64.wrap (x11 + 1)) H
theorem q5 (P : PT) (N4 : NTy k2 Pr) : QB Tryd.prog T0 36 o5 (En 36 k2 N4) k2 (B5 P N4) := fun _ _ _ _ _ _ _  => by kernel_rfl
abbrev k3 : Sk := [(8,.i .i64)]
noncomputable def o6 := ob Tryd.f82 [.r,.l,.r,.l,.l,.r,.r,.l,.l,.r,.r,.r,.r,.r,.l,.l]
def B6 (P : PT) (N4 : NTy k2 Pr) (x8 : Int) (H : AHeap) : Prop :=
  P (Value.int .i64 x8) H
theorem q6 (P : PT) (N4 : NTy k2 Pr) : QB Tryd.prog T0 36 o6 (ret P) k3 (B6 P N4) := fun _ _ _  => by kernel_rfl
abbrev k4 : Sk := [(0,.v),(1,.v),(8,.i .i64),(9,.v),(10,.i .i64),(11,.i .i64)]
noncomputable def o7 := ob Tryd.f82 [.r,.l,.r,.l,.l,.r,.r,.l,.l,.r,.r,.r,.r,.l]
def B7 (P : PT) (N4 : NTy k2 Pr) (x0 x1 : Value) (x8 : Int) (x9 : Value) (x10 x11 : Int) (H : AHeap) : Prop :=
  pif ((x8 : Int) != 0) (B6 P N4 x8 H) (B5 P N4 x0 x1 x9 x10 x11 H)
theorem q7 (P : PT) (N4 : NTy k2 Pr) : QB Tryd.prog T0 36 o7 (cnd 28 (En 36 k3 (B6 P N4)) (En 36 k2 (B5 P N4))) k4 (B7 P N4) := fun _ _ _ _ _ _ _ _  => by kernel_rfl
abbrev k5 : Sk := [(0,.v),(1,.v),(6,.i .i64),(7,.i .i64),(9,.v),(10,.i .i64),(11,.i .i64)]
noncomputable def o8 := ob Tryd.f82 [.r,.l,.r,.l,.l,.r,.r,.l,.l,.r,.r,.r,.l]
def B8 (P : PT) (N4 : NTy k2 Pr) (x0 x1 : Value) (x6 x7 : Int) (x9 : Value) (x10 x11 : Int) (H : AHeap) : Prop :=
  AC Tryd.prog T0 88 [(Value.int .i64 x6), (Value.int .i64 x7)] H (fun v1 H2 => asI .i64 v1 (fun v3 => B7 P N4 x0 x1 v3 x9 x10 x11 H2))
theorem q8 (P : PT) (N4 : NTy k2 Pr) : QB Tryd.prog T0 36 o8 (En 36 k4 (B7 P N4)) k5 (B8 P N4) := fun _ _ _ _ _ _ _ _ _  => by kernel_rfl
abbrev k6 : Sk := [(0,.v),(1,.v),(5,.i .i64),(6,.i .i64),(9,.v),(10,.i .i64),(11,.i .i64)]
noncomputable def o9 := ob Tryd.f82 [.r,.l,.r,.l,.l,.r,.r,.l,.l,.r,.r,.l]
def B9 (P : PT) (N4 : NTy k2 Pr) (x0 x1 : Value) (x5 x6 : Int) (x9 : Value) (x10 x11 : Int) (H : AHeap) : Prop :=
  idxK x1 x5 1 (fun b1 o2 => ldI .i64 H b1 o2 (fun v3 => B8 P N4 x0 x1 x6 v3 x9 x10 x11 H))
theorem q9 (P : PT) (N4 : NTy k2 Pr) : QB Tryd.prog T0 36 o9 (En 36 k5 (B8 P N4)) k6 (B9 P N4) := fun _ _ _ _ _ _ _ _ _  => by kernel_rfl
noncomputable def o10 := ob Tryd.f82 [.r,.l,.r,.l,.l,.r,.r,.l,.l,.r,.l,.r,.l,.l]
def B10 (P : PT) (N4 : NTy k2 Pr) (H : AHeap) : Prop :=
  P (Value.int .i64 1) H
theorem q10 (P : PT) (N4 : NTy k2 Pr) : QB Tryd.prog T0 36 o10 (ret P) k0 (B10 P N4) := fun _ _  => by kernel_rfl
noncomputable def o11 := ob Tryd.f82 [.r,.l,.r,.l,.l,.r,.r,.l,.l,.r,.l,.l]
def B11 (P : PT) (N4 : NTy k2 Pr) (x0 x1 : Value) (x5 x6 : Int) (x9 : Value) (x10 x11 : Int) (H : AHeap) : Prop :=
  lenK x1 (fun n1 => pif (decide ((x5 : Int) ≥ (n1 : Int))) (B10 P N4 H) (B9 P N4 x0 x1 x5 x6 x9 x10 x11 H))
theorem q11 (P : PT) (N4 : NTy k2 Pr) : QB Tryd.prog T0 36 o11 (cnd 19 (En 36 k0 (B10 P N4)) (En 36 k6 (B9 P N4))) k6 (B11 P N4) := fun _ _ _ _ _ _ _ _ _  => by kernel_rfl
noncomputable def o12 := ob Tryd.f82 [.r,.l,.r,.l,.l,.r,.r,.l,.l,.l]
def B12 (P : PT) (N4 : NTy k2 Pr) (x0 x1 x9 : Value) (x10 x11 : Int) (H : AHeap) : Prop :=
  idxK x9 x11 1 (fun b1 o2 => ldI .i64 H b1 o2 (fun v3 => B11 P N4 x0 x1 x11 v3 x9 x10 x11 H))
theorem q12 (P : PT) (N4 : NTy k2 Pr) : QB Tryd.prog T0 36 o12 (En 36 k6 (B11 P N4)) k2 (B12 P N4) := fun _ _ _ _ _ _ _  => by kernel_rfl
noncomputable def o13 := ob Tryd.f82 [.r,.l,.r,.l,.l,.l]
def B13 (P : PT) (N4 : NTy k2 Pr) (x0 x1 x9 : Value) (x10 x11 : Int) (H : AHeap) : Prop :=
  pif (decide ((x11 : Int) < x10)) (B12 P N4 x0 x1 x9 x10 x11 H) (B3 P x0 x1 H)
theorem q13 (P : PT) (N4 : NTy k2 Pr) : QB Tryd.prog T0 36 o13 (cnd 12 (En 36 k2 (B12 P N4)) (En 36 k1 (B3 P))) k2 (B13 P N4) := fun _ _ _ _ _ _ _  => by kernel_rfl
def L4 (P : PT) (x0 x1 x9 : Value) (x10 x11 : Int) (H : AHeap) : Prop :=
  ∃ (I : NTy k2 Pr) (μ : NTy k2 (AHeap → Nat)), I x0 x1 x9 x10 x11 H ∧ ∀ y0 y1 y9 y10 y11 G, I y0 y1 y9 y10 y11 G → B13 P (fun z0 z1 z9 z10 z11 G' => I z0 z1 z9 z10 z11 G' ∧ μ z0 z1 z9 z10 z11 G' < μ y0 y1 y9 y10 y11 G) y0 y1 y9 y10 y11 G
theorem l4 (P : PT) : LQ k2 (L4 P) (B13 P) := fun ⟨_,_,_,_,_,_⟩ _ ⟨I, μ, h0, hI⟩ => ⟨apT _ I, apT _ μ, h0, fun ⟨_,_,_,_,_,_⟩ _ h => hI _ _ _ _ _ _  h⟩
noncomputable def o14 := ob Tryd.f82 [.r,.l,.l]
def B14 (P : PT) (x0 x1 : Value) (H : AHeap) : Prop :=
  lenK x0 (fun n1 => L4 P x0 x1 x0 (n1 : Int) 0 H)
theorem q14 (P : PT) : QB Tryd.prog T0 36 o14 (En 36 k2 (L4 P)) k1 (B14 P) := fun _ _ _ _  => by kernel_rfl
noncomputable def o15 := ob Tryd.f82 [.l]
def B15 (P : PT) (x0 x1 : Value) (H : AHeap) : Prop :=
  B14 P x0 x1 H
theorem q15 (P : PT) : QB Tryd.prog T0 36 o15 (En 36 k1 (B14 P)) k1 (B15 P) := fun _ _ _ _  => by kernel_rfl
noncomputable def code : Code := (.seq (.region 0 ⟨o15⟩ false) (.seq (.seq (.region 1 ⟨o14⟩ false) (.block 0 (.loop (.seq (.region 2 ⟨o13⟩ false) (.seq (.cond (.tmp 12) .skip (.exit 0)) (.seq (.block 1 (.seq (.region 3 ⟨o12⟩ false) (.seq (.seq (.region 4 ⟨o11⟩ false) (.cond (.tmp 19) (.seq (.region 5 ⟨o10⟩ false) .ret) .skip)) (.seq (.region 6 ⟨o9⟩ false) (.seq (.region 7 ⟨o8⟩ false) (.seq (.region 8 ⟨o7⟩ false) (.cond (.tmp 28) (.seq (.region 9 ⟨o6⟩ false) .ret) .skip))))))) (.region 10 ⟨o5⟩ false))))))) (.seq (.seq (.region 11 ⟨o3⟩ false) (.cond (.tmp 35) (.seq (.region 12 ⟨o2⟩ false) .ret) .skip)) (.seq (.region 13 ⟨o1⟩ false) .ret))))
theorem body : Tryd.f82.body = some code := by kernel_rfl
theorem main (P : PT) : ∀ env H, (En 36 k1 (B15 P)) env H → AW Tryd.prog T0 code env H (mkQ (ret P) (fun _ _ _ => False) (ret P)) :=
  (r_seq (rB T0_ok (q15 P)) (r_seq (r_seq (rB T0_ok (q14 P)) (r_block (rL (l4 P) (fun N4 => (r_seq (rB T0_ok (q13 P N4)) (r_seq (r_cond rfl r_skip (r_exit (fun _ _ h => h))) (r_seq (r_block (r_seq (rB T0_ok (q12 P N4)) (r_seq (r_seq (rB T0_ok (q11 P N4)) (r_cond rfl (r_seq (rB T0_ok (q10 P N4)) r_ret) r_skip)) (r_seq (rB T0_ok (q9 P N4)) (r_seq (rB T0_ok (q8 P N4)) (r_seq (rB T0_ok (q7 P N4)) (r_cond rfl (r_seq (rB T0_ok (q6 P N4)) r_ret) r_skip))))))) (rB T0_ok (q5 P N4))))))))) (r_seq (r_seq (rB T0_ok (q3 P)) (r_cond rfl (r_seq (rB T0_ok (q2 P)) r_ret) r_skip)) (r_seq (rB T0_ok (q1 P)) r_ret))))
theorem ac (P : PT) (x0 x1 : Value) (H : AHeap) (h : B15 P x0 x1 H) : AC Tryd.prog T0 82 [x0, x1] H P :=
  r_fn T0_ok (c := code) (n := 36) Tryd.func82 body (by kernel_rfl) (main P) (En_mk (x0, x1, ()) (by kernel_rfl) ⟨by kernel_rfl, by kernel_rfl, trivial⟩ h)

end F82
-- loop.example/g01329/impl.areAll[int]
namespace F83
noncomputable def ret (P : PT) : EP := retE T0 9 Tryd.f83 P
abbrev k0 : Sk := [(0,.v),(3,.x)]
noncomputable def o1 := ob Tryd.f83 [.r,.l]
def B1 (P : PT) (x0 : Value) (x3 : Nat) (H : AHeap) : Prop :=
  AC Tryd.prog T0 89 [x0, (Value.func (.func 90) ⟨[]⟩ ⟨[(Value.pointer (some ⟨x3, 0, none⟩))]⟩)] H (fun v1 H2 => asB v1 (fun v3 => P (Value.bool (!v3)) H2))
theorem q1 (P : PT) : QB Tryd.prog T0 9 o1 (ret P) k0 (B1 P) := fun _ _ _ _  => by kernel_rfl
abbrev k1 : Sk := [(0,.v),(1,.v)]
noncomputable def o2 := ob Tryd.f83 [.l]
def B2 (P : PT) (x0 x1 : Value) (H : AHeap) : Prop :=
  pif (Value.oneCell' x1) (newK H [x1] 103 (fun b1 H2 => B1 P x0 b1 H2)) False
theorem q2 (P : PT) : QB Tryd.prog T0 9 o2 (En 9 k0 (B1 P)) k1 (B2 P) := fun _ _ _ _  => by kernel_rfl
noncomputable def code : Code := (.seq (.region 0 ⟨o2⟩ false) (.seq (.region 1 ⟨o1⟩ false) .ret))
theorem body : Tryd.f83.body = some code := by kernel_rfl
theorem main (P : PT) : ∀ env H, (En 9 k1 (B2 P)) env H → AW Tryd.prog T0 code env H (mkQ (ret P) (fun _ _ _ => False) (ret P)) :=
  (r_seq (rB T0_ok (q2 P)) (r_seq (rB T0_ok (q1 P)) r_ret))
theorem ac (P : PT) (x0 x1 : Value) (H : AHeap) (h : B2 P x0 x1 H) : AC Tryd.prog T0 83 [x0, x1] H P :=
  r_fn T0_ok (c := code) (n := 9) Tryd.func83 body (by kernel_rfl) (main P) (En_mk (x0, x1, ()) (by kernel_rfl) ⟨by kernel_rfl, by kernel_rfl, trivial⟩ h)

end F83
-- loop.example/g01329/impl.isCubic$1
namespace F84
noncomputable def ret (P : PT) : EP := retE T0 5 Tryd.f84 P
abbrev k0 : Sk := [(0,.i .i64)]
noncomputable def o1 := ob Tryd.f84 [.r,.l]
def B1 (P : PT) (x0 : Int) (H : AHeap) : Prop :=
  P (Value.bool ((x0 : Int) == 3)) H
theorem q1 (P : PT) : QB Tryd.prog T0 5 o1 (ret P) k0 (B1 P) := fun _ _ _  => by kernel_rfl
noncomputable def o2 := ob Tryd.f84 [.l]
def B2 (P : PT) (x0 : Int) (H : AHeap) : Prop :=
  B1 P x0 H
theorem q2 (P : PT) : QB Tryd.prog T0 5 o2 (En 5 k0 (B1 P)) k0 (B2 P) := fun _ _ _  => by kernel_rfl
noncomputable def code : Code := (.seq (.region 0 ⟨o2⟩ false) (.seq (.region 1 ⟨o1⟩ false) .ret))
theorem body : Tryd.f84.body = some code := by kernel_rfl
theorem main (P : PT) : ∀ env H, (En 5 k0 (B2 P)) env H → AW Tryd.prog T0 code env H (mkQ (ret P) (fun _ _ _ => False) (ret P)) :=
  (r_seq (rB T0_ok (q2 P)) (r_seq (rB T0_ok (q1 P)) r_ret))
theorem ac (P : PT) (x0 : Int) (H : AHeap) (h : B2 P x0 H) : AC Tryd.prog T0 84 [(Value.int .i64 x0)] H P :=
  r_fn T0_ok (c := code) (n := 5) Tryd.func84 body (by kernel_rfl) (main P) (En_mk (x0, ()) (by kernel_rfl) ⟨by kernel_rfl, trivial⟩ h)

end F84
-- (loop.example/g01329/impl.Graph).cycles
namespace F85
noncomputable def ret (P : PT) : EP := retE T0 81 Tryd.f85 P
abbrev k0 : Sk := [(5,.v)]
noncomputable def o1 := ob Tryd.f85 [.r,.r,.r,.l]
def B1 (P : PT) (x5 : Value) (H : AHeap) : Prop :=
  P x5 H
theorem q1 (P : PT) : QB Tryd.prog T0 81 o1 (ret P) k0 (B1 P) := fun _ _ _  => by kernel_rfl
abbrev k1 : Sk := [(1,.i .u64),(2,.x),(5,.v),(15,.v),(16,.i .i64),(17,.i .i64)]
noncomputable def o3 := ob Tryd.f85 [.r,.r,.l,.r,.l,.l,.r,.r,.r]
def B3 (P : PT) (N2 : NTy k1 Pr) (x1 : Int) (x2 : Nat) (x5 x15 : Value) (x16 x17 : Int) (H : AHeap) : Prop :=
  N2 x1 x2 x5 x15 x16 (IntKind.i64.wrap (x17 + 1)) H
theorem q3 (P : PT) (N2 : NTy k1 Pr) : QB Tryd.prog T0 81 o3 (En 81 k1 N2) k1 (B3 P N2) := fun _ _ _ _ _ _ _ _  => by kernel_rfl
abbrev k2 : Sk := [(1,.i .u64),(2,.x),(5,.v),(8,.i .u64),(15,.v),(16,.i .i64),(17,.i .i64)]
noncomputable def o4 := ob Tryd.f85 [.r,.r,.l,.r,.l,.l,.r,.r,.l,.l,.r,.r,.r,.r]
def B4 (P : PT) (N2 : NTy k1 Pr) (x1 : Int) (x2 : Nat) (x5 : Value) (x8 : Int) (x15 : Value) (x16 x17 : Int) (H : AHeap) : Prop :=
  newK H [(Value.int .u64 x8)] 52 (fun b1 H2 => apK T0 52 H2 x5 (Value.slice (some ⟨b1, 0, none⟩) 1 (1 + 1)) (fun v3 H4 => B3 P N2 x1 x2 v3 x15 x16 x17 H4))
theorem q4 (P : PT) (N2 : NTy k1 Pr) : QB Tryd.prog T0 81 o4 (En 81 k1 (B3 P N2)) k2 (B4 P N2) := fun _ _ _ _ _ _ _ _ _  => by kernel_rfl
abbrev k3 : Sk := [(1,.i .u64),(2,.x),(5,.v),(8,.i .u64),(9,.v),(15,.v),(16,.i .i64),(17,.i .i64)]
noncomputable def o6 := ob Tryd.f85 [.r,.r,.l,.r,.l,.l,.r,.r,.l,.l,.r,.r,.r,.l,.r,.l,.l,.r,.r]
def B6 (P : PT) (N2 : NTy k1 Pr) (N5 : NTy k3 Pr) (x1 : Int) (x2 : Nat) (x5 : Value) (x8 : Int) (x9 x15 : Value) (x16 x17 : Int) (H : AHeap) : Prop :=
  sliceK H 2 x9 (some (Value.int .i64 1)) none 1 (fun v1 => N5 x1 x2 x5 x8 v1 x15 x16 x17 H)
theorem q6 (P : PT) (N2 : NTy k1 Pr) (N5 : NTy k3 Pr) : QB Tryd.prog T0 81 o6 (En 81 k3 N5) k3 (B6 P N2 N5) := fun _ _ _ _ _ _ _ _ _ _  => by kernel_rfl
abbrev k4 : Sk := [(1,.i .u64),(2,.x),(5,.v),(8,.i .u64),(9,.v),(15,.v),(16,.i .i64),(17,.i .i64),(44,.g [.i,.i]),(45,.i .i64)]
noncomputable def o8 := ob Tryd.f85 [.r,.r,.l,.r,.l,.l,.r,.r,.l,.l,.r,.r,.r,.l,.r,.l,.l,.r,.l,.l,.r,.l,.l,.r,.r,.r]
def B8 (P : PT) (N2 : NTy k1 Pr) (N5 : NTy k3 Pr) (N7 : NTy k4 Pr) (x1 : Int) (x2 : Nat) (x5 : Value) (x8 : Int) (x9 x15 : Value) (x16 x17 x44a x44b x45 : Int) (H : AHeap) : Prop :=
  N7 x1 x2 x5 x8 x9 x15 x16 x17 x44a x44b (IntKind.i64.wrap (x45 + 1)) H
theorem q8 (P : PT) (N2 : NTy k1 Pr) (N5 : NTy k3 Pr) (N7 : NTy k4 Pr) : QB Tryd.prog T0 81 o8 (En 81 k4 N7) k4 (B8 P N2 N5 N7) := fun _ _ _ _ _ _ _ _ _ _ _ _ _  => by kernel_rfl
abbrev k5 : Sk := [(1,.i .u64),(2,.x),(5,.v),(8,.i .u64),(9,.v),(15,.v),(16,.i .i64),(17,.i .i64),(44,.g [.i,.i]),(45,.i .i64),(50,.v),(51,.i .i64),(52,.i .i64)]
noncomputable def o10 := ob Tryd.f85 [.r,.r,.l,.r,.l,.l,.r,.r,.l,.l,.r,.r,.r,.l,.r,.l,.l,.r,.l,.l,.r,.l,.l,.r,.r,.l,.l,.r,.r,.l,.l,.r,.r,.r]
def B10 (P : PT) (N2 : NTy k1 Pr) (N5 : NTy k3 Pr) (N7 : NTy k4 Pr) (N9 : NTy k5 Pr) (x1 : Int) (x2 : Nat) (x5 : Value) (x8 : Int) (x9 x15 : Value) (x16 x17 x44a x44b x45 : Int) (x50 : Value) (x51 x52 : Int) (H : AHeap) : Prop :=
  N9 x1 x2 x5 x8 x9 x15 x16 x17 x44a x44b x45 x50 x51 (IntKind.i64.wrap (x52 + 1)) H
theorem q10 (P : PT) (N2 : NTy k1 Pr) (N5 : NTy k3 Pr) (N7 : NTy k4 Pr) (N9 : NTy k5 Pr) : QB Tryd.prog T0 81 o10 (En 81 k5 N9) k5 (B10 P N2 N5 N7 N9) := fun _ _ _ _ _ _ _ _ _ _ _ _ _ _ _ _  => by kernel_rfl
abbrev k6 : Sk := [(1,.i .u64),(2,.x),(5,.v),(8,.i .u64),(9,.v),(13,.i .i64),(15,.v),(16,.i .i64),(17,.i .i64),(44,.g [.i,.i]),(45,.i .i64),(50,.v),(51,.i .i64),(52,.i .i64)]
noncomputable def o11 := ob Tryd.f85 [.r,.r,.l,.r,.l,.l,.r,.r,.l,.l,.r,.r,.r,.l,.r,.l,.l,.r,.l,.l,.r,.l,.l,.r,.r,.l,.l,.r,.r,.l,.l,.r,.r,.l,.l,.r,.r,.l,.r]
def B11 (P : PT) (N2 : NTy k1 Pr) (N5 : NTy k3 Pr) (N7 : NTy k4 Pr) (N9 : NTy k5 Pr) (x1 : Int) (x2 : Nat) (x5 : Value) (x8 : Int) (x9 : Value) (x13 : Int) (x15 : Value) (x16 x17 x44a x44b x45 : Int) (x50 : Value) (x51 x52 : Int) (H : AHeap) : Prop :=
  newK H [(Value.int .i64 x13)] 2 (fun b1 H2 => apK T0 2 H2 x9 (Value.slice (some ⟨b1, 0, none⟩) 1 (1 + 1)) (fun v3 H4 => B10 P N2 N5 N7 N9 x1 x2 x5 x8 v3 x15 x16 x17 x44a x44b x45 x50 x51 x52 H4))
theorem q11 (P : PT) (N2 : NTy k1 Pr) (N5 : NTy k3 Pr) (N7 : NTy k4 Pr) (N9 : NTy k5 Pr) : QB Tryd.prog T0 81 o11 (En 81 k5 (B10 P N2 N5 N7 N9)) k6 (B11 P N2 N5 N7 N9) := fun _ _ _ _ _ _ _ _ _ _ _ _ _ _ _ _ _  => by kernel_rfl
noncomputable def o12 := ob Tryd.f85 [.r,.r,.l,.r,.l,.l,.r,.r,.l,.l,.r,.r,.r,.l,.r,.l,.l,.r,.l,.l,.r,.l,.l,.r,.r,.l,.l,.r,.r,.l,.l,.r,.r,.l,.l,.r,.r,.l,.l]
def B12 (P : PT) (N2 : NTy k1 Pr) (N5 : NTy k3 Pr) (N7 : NTy k4 Pr) (N9 : NTy k5 Pr) (x1 : Int) (x2 : Nat) (x5 : Value) (x8 : Int) (x9 : Value) (x13 : Int) (x15 : Value) (x16 x17 x44a x44b x45 : Int) (x50 : Value) (x51 x52 : Int) (H : AHeap) : Prop :=
  ((0 : Int) ≤ x13) ∧ (B11 P N2 N5 N7 N9 x1 x2 x5 (IntKind.u64.wrap (BitVec.ofInt 64 x8 ||| BitVec.ofInt 64 (IntKind.u64.wrap (1 * 2 ^ (min (Int.toNat x13) 64)))).toNat) x9 x13 x15 x16 x17 x44a x44b x45 x50 x51 x52 H)
theorem q12 (P : PT) (N2 : NTy k1 Pr) (N5 : NTy k3 Pr) (N7 : NTy k4 Pr) (N9 : NTy k5 Pr) : QB Tryd.prog T0 81 o12 (En 81 k6 (B11 P N2 N5 N7 N9)) k6 (B12 P N2 N5 N7 N9) := fun _ _ _ _ _ _ _ _ _ _ _ _ _ _ _ _ _  => by kernel_rfl
noncomputable def o13 := ob Tryd.f85 [.r,.r,.l,.r,.l,.l,.r,.r,.l,.l,.r,.r,.r,.l,.r,.l,.l,.r,.l,.l,.r,.l,.l,.r,.r,.l,.l,.r,.r,.l,.l,.r,.r,.l,.l,.r,.l]
def B13 (P : PT) (N2 : NTy k1 Pr) (N5 : NTy k3 Pr) (N7 : NTy k4 Pr) (N9 : NTy k5 Pr) (x1 : Int) (x2 : Nat) (x5 : Value) (x8 : Int) (x9 : Value) (x13 : Int) (x15 : Value) (x16 x17 x44a x44b x45 : Int) (x50 : Value) (x51 x52 : Int) (H : AHeap) : Prop :=
  AC Tryd.prog T0 42 [(Value.int .u64 x1), (Value.int .i64 x13)] H (fun v1 H2 => asB v1 (fun v3 => pif v3 (AC Tryd.prog T0 42 [(Value.int .u64 x8), (Value.int .i64 x13)] H2 (fun v4 H5 => asB v4 (fun v6 => pif (!v6) (B12 P N2 N5 N7 N9 x1 x2 x5 x8 x9 x13 x15 x16 x17 x44a x44b x45 x50 x51 x52 H5) (B10 P N2 N5 N7 N9 x1 x2 x5 x8 x9 x15 x16 x17 x44a x44b x45 x50 x51 x52 H5)))) (B10 P N2 N5 N7 N9 x1 x2 x5 x8 x9 x15 x16 x17 x44a x44b x45 x50 x51 x52 H2)))
theorem q13 (P : PT) (N2 : NTy k1 Pr) (N5 : NTy k3 Pr) (N7 : NTy k4 Pr) (N9 : NTy k5 Pr) : QB Tryd.prog T0 81 o13 (cnd 64 (En 81 k6 (B12 P N2 N5 N7 N9)) (En 81 k5 (B10 P N2 N5 N7 N9))) k6 (B13 P N2 N5 N7 N9) := fun _ _ _ _ _ _ _ _ _ _ _ _ _ _ _ _ _  => by kernel_rfl
noncomputable def o14 := ob Tryd.f85 [.r,.r,.l,.r,.l,.l,.r,.r,.l,.l,.r,.r,.r,.l,.r,.l,.l,.r,.l,.l,.r,.l,.l,.r,.r,.l,.l,.r,.r,.l,.l,.r,.r,.l,.l,.l]
def B14 (P : PT) (N2 : NTy k1 Pr) (N5 : NTy k3 Pr) (N7 : NTy k4 Pr) (N9 : NTy k5 Pr) (x1 : Int) (x2 : Nat) (x5 : Value) (x8 : Int) (x9 x15 : Value) (x16 x17 x44a x44b x45 : Int) (x50 : Value) (x51 x52 : Int) (H : AHeap) : Prop :=
  idxK x50 x52 1 (fun b1 o2 => ldI .i64 H b1 o2 (fun v3 => B13 P N2 N5 N7 N9 x1 x2 x5 x8 x9 v3 x15 x16 x17 x44a x44b x45 x50 x51 x52 H))
theorem q14 (P : PT) (N2 : NTy k1 Pr) (N5 : NTy k3 Pr) (N7 : NTy k4 Pr) (N9 : NTy k5 Pr) : QB Tryd.prog T0 81 o14 (En 81 k6 (B13 P N2 N5 N7 N9)) k5 (B14 P N2 N5 N7 N9) := fun _ _ _ _ _ _ _ _ _ _ _ _ _ _ _ _  => by kernel_rfl
noncomputable def o15 := ob Tryd.f85 [.r,.r,.l,.r,.l,.l,.r,.r,.l,.l,.r,.r,.r,.l,.r,.l,.l,.r,.l,.l,.r,.l,.l,.r,.r,.l,.l,.r,.r,.l,.l,.l]
def B15 (P : PT) (N2 : NTy k1 Pr) (N5 : NTy k3 Pr) (N7 : NTy k4 Pr) (N9 : NTy k5 Pr) (x1 : Int) (x2 : Nat) (x5 : Value) (x8 : Int) (x9 x15 : Value) (x16 x17 x44a x44b x45 : Int) (x50 : Value) (x51 x52 : Int) (H : AHeap) : Prop :=
  pif (decide ((x52 : Int) < x51)) (B14 P N2 N5 N7 N9 x1 x2 x5 x8 x9 x15 x16 x17 x44a x44b x45 x50 x51 x52 H) (B8 P N2 N5 N7 x1 x2 x5 x8 x9 x15 x16 x17 x44a x44b x45 H)
theorem q15 (P : PT) (N2 : NTy k1 Pr) (N5 : NTy k3 Pr) (N7 : NTy k4 Pr) (N9 : NTy k5 Pr) : QB Tryd.prog T0 81 o15 (cnd 53 (En 81 k5 (B14 P N2 N5 N7 N9)) (En 81 k4 (B8 P N2 N5 N7))) k5 (B15 P N2 N5 N7 N9) := fun _ _ _ _ _ _ _ _ _ _ _ _ _ _ _ _  => by kernel_rfl
def L9 (P : PT) (N2 : NTy k1 Pr) (N5 : NTy k3 Pr) (N7 : NTy k4 Pr) (x1 : Int) (x2 : Nat) (x5 : Value) (x8 : Int) (x9 x15 : Value) (x16 x17 x44a x44b x45 : Int) (x50 : Value) (x51 x52 : Int) (H : AHeap) : Prop :=
  ∃ (I : NTy k5 Pr) (μ : NTy k5 (AHeap → Nat)), I x1 x2 x5 x8 x9 x15 x16 x17 x44a x44b x45 x50 x51 x52 H ∧ ∀ y1 y2 y5 y8 y9 y15 y16 y17 y44a y44b y45 y50 y51 y52 G, I y1 y2 y5 y8 y9 y15 y16 y17 y44a y44b y45 y50 y51 y52 G → B15 P N2 N5 N7 (fun z1 z2 z5 z8 z9 z15 z16 z17 z44a z44b z45 z50 z51 z52 G' => I z1 z2 z5 z8 z9 z15 z16 z17 z44a z44b z45 z50 z51 z52 G' ∧ μ z1 z2 z5 z8 z9 z15 z16 z17 z44a z44b z45 z50 z51 z52 G' < μ y1 y2 y5 y8 y9 y15 y16 y17 y44a y44b y45 y50 y51 y52 G) y1 y2 y5 y8 y9 y15 y16 y17 y44a y44b y45 y50 y51 y52 G
theorem l9 (P : PT) (N2 : NTy k1 Pr) (N5 : NTy k3 Pr) (N7 : NTy k4 Pr) : LQ k5 (L9 P N2 N5 N7) (B15 P N2 N5 N7) := fun ⟨_,_,_,_,_,_,_,_,_,_,_,_,_,_,_⟩ _ ⟨I, μ, h0, hI⟩ => ⟨apT _ I, apT _ μ, h0, fun ⟨_,_,_,_,_,_,_,_,_,_,_,_,_,_,_⟩ _ h => hI _ _ _ _ _ _ _ _ _ _ _ _ _ _ _  h⟩
abbrev k7 : Sk := [(1,.i .u64),(2,.x),(5,.v),(8,.i .u64),(9,.v),(11,.i .i64),(15,.v),(16,.i .i64),(17,.i .i64),(44,.g [.i,.i]),(45,.i .i64)]
noncomputable def o16 := ob Tryd.f85 [.r,.r,.l,.r,.l,.l,.r,.r,.l,.l,.r,.r,.r,.l,.r,.l,.l,.r,.l,.l,.r,.l,.l,.r,.r,.l,.l,.r,.l]
def B16 (P : PT) (N2 : NTy k1 Pr) (N5 : NTy k3 Pr) (N7 : NTy k4 Pr) (x1 : Int) (x2 : Nat) (x5 : Value) (x8 : Int) (x9 : Value) (x11 : Int) (x15 : Value) (x16 x17 x44a x44b x45 : Int) (H : AHeap) : Prop :=
  ldI .i64 H x2 0 (fun v1 => ld1 H x2 1 (fun v2 => AC Tryd.prog T0 54 [(Value.agg ⟨[(Value.int .i64 v1), v2]⟩), (Value.int .i64 x11)] H (fun v3 H4 => lenK v3 (fun n6 => L9 P N2 N5 N7 x1 x2 x5 x8 x9 x15 x16 x17 x44a x44b x45 v3 (n6 : Int) 0 H4))))
theorem q16 (P : PT) (N2 : NTy k1 Pr) (N5 : NTy k3 Pr) (N7 : NTy k4 Pr) : QB Tryd.prog T0 81 o16 (En 81 k5 (L9 P N2 N5 N7)) k7 (B16 P N2 N5 N7) := fun _ _ _ _ _ _ _ _ _ _ _ _ _ _  => by kernel_rfl
noncomputable def o17 := ob Tryd.f85 [.r,.r,.l,.r,.l,.l,.r,.r,.l,.l,.r,.r,.r,.l,.r,.l,.l,.r,.l,.l,.r,.l,.l,.r,.r,.l,.l,.l]
def B17 (P : PT) (N2 : NTy k1 Pr) (N5 : NTy k3 Pr) (N7 : NTy k4 Pr) (x1 : Int) (x2 : Nat) (x5 : Value) (x8 : Int) (x9 x15 : Value) (x16 x17 x44a x44b x45 : Int) (H : AHeap) : Prop :=
  bndK x45 2 (atK [(Value.int .i64 x44a), (Value.int .i64 x44b)] (Int.toNat x45 * 1) (fun v1 => asI .i64 v1 (fun v2 => B16 P N2 N5 N7 x1 x2 x5 x8 x9 v2 x15 x16 x17 x44a x44b x45 H)))
theorem q17 (P : PT) (N2 : NTy k1 Pr) (N5 : NTy k3 Pr) (N7 : NTy k4 Pr) : QB Tryd.prog T0 81 o17 (En 81 k7 (B16 P N2 N5 N7)) k4 (B17 P N2 N5 N7) := fun _ _ _ _ _ _ _ _ _ _ _ _ _  => by kernel_rfl
noncomputable def o18 := ob Tryd.f85 [.r,.r,.l,.r,.l,.l,.r,.r,.l,.l,.r,.r,.r,.l,.r,.l,.l,.r,.l,.l,.r,.l,.l,.l]
def B18 (P : PT) (N2 : NTy k1 Pr) (N5 : NTy k3 Pr) (N7 : NTy k4 Pr) (x1 : Int) (x2 : Nat) (x5 : Value) (x8 : Int) (x9 x15 : Value) (x16 x17 x44a x44b x45 : Int) (H : AHeap) : Prop :=
  pif (decide ((x45 : Int) < 2)) (B17 P N2 N5 N7 x1 x2 x5 x8 x9 x15 x16 x17 x44a x44b x45 H) (B6 P N2 N5 x1 x2 x5 x8 x9 x15 x16 x17 H)
theorem q18 (P : PT) (N2 : NTy k1 Pr) (N5 : NTy k3 Pr) (N7 : NTy k4 Pr) : QB Tryd.prog T0 81 o18 (cnd 46 (En 81 k4 (B17 P N2 N5 N7)) (En 81 k3 (B6 P N2 N5))) k4 (B18 P N2 N5 N7) := fun _ _ _ _ _ _ _ _ _ _ _ _ _  => by kernel_rfl
def L7 (P : PT) (N2 : NTy k1 Pr) (N5 : NTy k3 Pr) (x1 : Int) (x2 : Nat) (x5 : Value) (x8 : Int) (x9 x15 : Value) (x16 x17 x44a x44b x45 : Int) (H : AHeap) : Prop :=
  ∃ (I : NTy k4 Pr) (μ : NTy k4 (AHeap → Nat)), I x1 x2 x5 x8 x9 x15 x16 x17 x44a x44b x45 H ∧ ∀ y1 y2 y5 y8 y9 y15 y16 y17 y44a y44b y45 G, I y1 y2 y5 y8 y9 y15 y16 y17 y44a y44b y45 G → B18 P N2 N5 (fun z1 z2 z5 z8 z9 z15 z16 z17 z44a z44b z45 G' => I z1 z2 z5 z8 z9 z15 z16 z17 z44a z44b z45 G' ∧ μ z1 z2 z5 z8 z9 z15 z16 z17 z44a z44b z45 G' < μ y1 y2 y5 y8 y9 y15 y16 y17 y44a y44b y45 G) y1 y2 y5 y8 y9 y15 y16 y17 y44a y44b y45 G
theorem l7 (P : PT) (N2 : NTy k1 Pr) (N5 : NTy k3 Pr) : LQ k4 (L7 P N2 N5) (B18 P N2 N5) := fun ⟨_,_,_,_,_,_,_,_,_,_,_,_⟩ _ ⟨I, μ, h0, hI⟩ => ⟨apT _ I, apT _ μ, h0, fun ⟨_,_,_,_,_,_,_,_,_,_,_,_⟩ _ h => hI _ _ _ _ _ _ _ _ _ _ _ _  h⟩
noncomputable def o19 := ob Tryd.f85 [.r,.r,.l,.r,.l,.l,.r,.r,.l,.l,.r,.r,.r,.l,.r,.l,.l,.r,.l,.l,.l]
def B19 (P : PT) (N2 : NTy k1 Pr) (N5 : NTy k3 Pr) (x1 : Int) (x2 : Nat) (x5 : Value) (x8 : Int) (x9 x15 : Value) (x16 x17 : Int) (H : AHeap) : Prop :=
  ld1 H x2 1 (fun v1 => idxK x9 0 1 (fun b2 o3 => ldI .i64 H b2 o3 (fun v4 => idxK v1 v4 2 (fun b5 o6 => ldI .i64 H b5 o6 (fun v7 => ldI .i64 H b5 (o6 + 1) (fun v8 => L7 P N2 N5 x1 x2 x5 x8 x9 x15 x16 x17 v7 v8 0 H))))))
theorem q19 (P : PT) (N2 : NTy k1 Pr) (N5 : NTy k3 Pr) : QD Tryd.prog T0 81 o19 [(0, false), (1, false), (2, false), (3, false), (4, false), (5, false), (6, false), (7, false)] (En 81 k4 (L7 P N2 N5)) k3 (B19 P N2 N5) := fun _ _ _ _ _ _ _ _ _ _  => by kernel_rfl
noncomputable def o20 := ob Tryd.f85 [.r,.r,.l,.r,.l,.l,.r,.r,.l,.l,.r,.r,.r,.l,.r,.l,.l,.l,.l]
def B20 (P : PT) (N2 : NTy k1 Pr) (N5 : NTy k3 Pr) (x1 : Int) (x2 : Nat) (x5 : Value) (x8 : Int) (x9 x15 : Value) (x16 x17 : Int) (H : AHeap) : Prop :=
  lenK x9 (fun n1 => pif (decide (((n1 : Int) : Int) > 0)) (B19 P N2 N5 x1 x2 x5 x8 x9 x15 x16 x17 H) (B4 P N2 x1 x2 x5 x8 x15 x16 x17 H))
theorem q20 (P : PT) (N2 : NTy k1 Pr) (N5 : NTy k3 Pr) : QB Tryd.prog T0 81 o20 (cnd 35 (En 81 k3 (B19 P N2 N5)) (En 81 k2 (B4 P N2))) k3 (B20 P N2 N5) := fun _ _ _ _ _ _ _ _ _ _  => by kernel_rfl
def L5 (P : PT) (N2 : NTy k1 Pr) (x1 : Int) (x2 : Nat) (x5 : Value) (x8 : Int) (x9 x15 : Value) (x16 x17 : Int) (H : AHeap) : Prop :=
  ∃ (I : NTy k3 Pr) (μ : NTy k3 (AHeap → Nat)), I x1 x2 x5 x8 x9 x15 x16 x17 H ∧ ∀ y1 y2 y5 y8 y9 y15 y16 y17 G, I y1 y2 y5 y8 y9 y15 y16 y17 G → B20 P N2 (fun z1 z2 z5 z8 z9 z15 z16 z17 G' => I z1 z2 z5 z8 z9 z15 z16 z17 G' ∧ μ z1 z2 z5 z8 z9 z15 z16 z17 G' < μ y1 y2 y5 y8 y9 y15 y16 y17 G) y1 y2 y5 y8 y9 y15 y16 y17 G
theorem l5 (P : PT) (N2 : NTy k1 Pr) : LQ k3 (L5 P N2) (B20 P N2) := fun ⟨_,_,_,_,_,_,_,_,_⟩ _ ⟨I, μ, h0, hI⟩ => ⟨apT _ I, apT _ μ, h0, fun ⟨_,_,_,_,_,_,_,_,_⟩ _ h => hI _ _ _ _ _ _ _ _ _  h⟩
abbrev k8 : Sk := [(1,.i .u64),(2,.x),(5,.v),(7,.x),(8,.i .u64),(15,.v),(16,.i .i64),(17,.i .i64)]
noncomputable def o21 := ob Tryd.f85 [.r,.r,.l,.r,.l,.l,.r,.r,.l,.l,.r,.r,.r,.l,.l]
def B21 (P : PT) (N2 : NTy k1 Pr) (x1 : Int) (x2 : Nat) (x5 : Value) (x7 : Nat) (x8 : Int) (x15 : Value) (x16 x17 : Int) (H : AHeap) : Prop :=
  ldI .i64 H x7 0 (fun v1 => newK H [(Value.int .i64 v1)] 2 (fun b2 H3 => L5 P N2 x1 x2 x5 x8 (Value.slice (some ⟨b2, 0, none⟩) 1 (1 + 1)) x15 x16 x17 H3))
theorem q21 (P : PT) (N2 : NTy k1 Pr) : QB Tryd.prog T0 81 o21 (En 81 k3 (L5 P N2)) k8 (B21 P N2) := fun _ _ _ _ _ _ _ _ _ _  => by kernel_rfl
abbrev k9 : Sk := [(1,.i .u64),(2,.x),(5,.v),(7,.x),(15,.v),(16,.i .i64),(17,.i .i64)]
noncomputable def o22 := ob Tryd.f85 [.r,.r,.l,.r,.l,.l,.r,.r,.l,.l,.r,.r,.l]
def B22 (P : PT) (N2 : NTy k1 Pr) (x1 : Int) (x2 : Nat) (x5 : Value) (x7 : Nat) (x15 : Value) (x16 x17 : Int) (H : AHeap) : Prop :=
  ldI .i64 H x7 0 (fun v1 => ((0 : Int) ≤ v1) ∧ (B21 P N2 x1 x2 x5 x7 (IntKind.u64.wrap (1 * 2 ^ (min (Int.toNat v1) 64))) x15 x16 x17 H))
theorem q22 (P : PT) (N2 : NTy k1 Pr) : QB Tryd.prog T0 81 o22 (En 81 k8 (B21 P N2)) k9 (B22 P N2) := fun _ _ _ _ _ _ _ _ _  => by kernel_rfl
noncomputable def o23 := ob Tryd.f85 [.r,.r,.l,.r,.l,.l,.r,.r,.l,.l,.r,.l,.l]
def B23 (P : PT) (N2 : NTy k1 Pr) (x1 : Int) (x2 : Nat) (x5 : Value) (x7 : Nat) (x15 : Value) (x16 x17 : Int) (H : AHeap) : Prop :=
  lenK x5 (fun n1 => pif (decide (((n1 : Int) : Int) > 0)) (AC Tryd.prog T0 40 [x5, (Value.func (.func 91) ⟨[]⟩ ⟨[(Value.pointer (some ⟨x7, 0, none⟩))]⟩)] H (fun v2 H3 => asB v2 (fun v4 => pif v4 (B3 P N2 x1 x2 x5 x15 x16 x17 H3) (B22 P N2 x1 x2 x5 x7 x15 x16 x17 H3)))) (B22 P N2 x1 x2 x5 x7 x15 x16 x17 H))
theorem q23 (P : PT) (N2 : NTy k1 Pr) : QB Tryd.prog T0 81 o23 (cnd 28 (En 81 k1 (B3 P N2)) (En 81 k9 (B22 P N2))) k9 (B23 P N2) := fun _ _ _ _ _ _ _ _ _  => by kernel_rfl
noncomputable def o24 := ob Tryd.f85 [.r,.r,.l,.r,.l,.l,.r,.r,.l,.l,.l]
def B24 (P : PT) (N2 : NTy k1 Pr) (x1 : Int) (x2 : Nat) (x5 x15 : Value) (x16 x17 : Int) (H : AHeap) : Prop :=
  idxK x15 x17 1 (fun b1 o2 => ldI .i64 H b1 o2 (fun v3 => newK H [(Value.int .i64 0)] 2 (fun b4 H5 => stK H5 b4 0 [(Value.int .i64 v3)] (fun H6 => B23 P N2 x1 x2 x5 b4 x15 x16 x17 H6))))
theorem q24 (P : PT) (N2 : NTy k1 Pr) : QB Tryd.prog T0 81 o24 (En 81 k9 (B23 P N2)) k1 (B24 P N2) := fun _ _ _ _ _ _ _ _  => by kernel_rfl
noncomputable def o25 := ob Tryd.f85 [.r,.r,.l,.r,.l,.l,.l]
def B25 (P : PT) (N2 : NTy k1 Pr) (x1 : Int) (x2 : Nat) (x5 x15 : Value) (x16 x17 : Int) (H : AHeap) : Prop :=
  pif (decide ((x17 : Int) < x16)) (B24 P N2 x1 x2 x5 x15 x16 x17 H) (B1 P x5 H)
theorem q25 (P : PT) (N2 : NTy k1 Pr) : QB Tryd.prog T0 81 o25 (cnd 18 (En 81 k1 (B24 P N2)) (En 81 k0 (B1 P))) k1 (B25 P N2) := fun _ _ _ _ _ _ _ _  => by kernel_rfl
def L2 (P : PT) (x1 : Int) (x2 : Nat) (x5 x15 : Value) (x16 x17 : Int) (H : AHeap) : Prop :=
  ∃ (I : NTy k1 Pr) (μ : NTy k1 (AHeap → Nat)), I x1 x2 x5 x15 x16 x17 H ∧ ∀ y1 y2 y5 y15 y16 y17 G, I y1 y2 y5 y15 y16 y17 G → B25 P (fun z1 z2 z5 z15 z16 z17 G' => I z1 z2 z5 z15 z16 z17 G' ∧ μ z1 z2 z5 z15 z16 z17 G' < μ y1 y2 y5 y15 y16 y17 G) y1 y2 y5 y15 y16 y17 G
theorem l2 (P : PT) : LQ k1 (L2 P) (B25 P) := fun ⟨_,_,_,_,_,_,_⟩ _ ⟨I, μ, h0, hI⟩ => ⟨apT _ I, apT _ μ, h0, fun ⟨_,_,_,_,_,_,_⟩ _ h => hI _ _ _ _ _ _ _  h⟩
abbrev k10 : Sk := [(1,.i .u64),(2,.x),(5,.v)]
noncomputable def o26 := ob Tryd.f85 [.r,.r,.l,.l]
def B26 (P : PT) (x1 : Int) (x2 : Nat) (x5 : Value) (H : AHeap) : Prop :=
  AC Tryd.prog T0 34 [(Value.int .u64 x1)] H (fun v1 H2 => lenK v1 (fun n4 => L2 P x1 x2 x5 v1 (n4 : Int) 0 H2))
theorem q26 (P : PT) : QB Tryd.prog T0 81 o26 (En 81 k1 (L2 P)) k10 (B26 P) := fun _ _ _ _ _  => by kernel_rfl
abbrev k11 : Sk := [(1,.i .u64),(2,.x)]
noncomputable def o27 := ob Tryd.f85 [.r,.l]
def B27 (P : PT) (x1 : Int) (x2 : Nat) (H : AHeap) : Prop :=
  B26 P x1 x2 (Value.slice none 0 0) H
theorem q27 (P : PT) : QB Tryd.prog T0 81 o27 (En 81 k10 (B26 P)) k11 (B27 P) := fun _ _ _ _  => by kernel_rfl
abbrev k12 : Sk := [(0,.g [.i,.v]),(1,.i .u64)]
noncomputable def o28 := ob Tryd.f85 [.l]
def B28 (P : PT) (x0a : Int) (x0b : Value) (x1 : Int) (H : AHeap) : Prop :=
  newK H [(Value.int .i64 x0a), x0b] 31 (fun b1 H2 => B27 P x1 b1 H2)
theorem q28 (P : PT) : QB Tryd.prog T0 81 o28 (En 81 k11 (B27 P)) k12 (B28 P) := fun _ _ _ _ _  => by kernel_rfl
noncomputable def code : Code := (.seq (.region 0 ⟨o28⟩ false) (.seq (.region 1 ⟨o27⟩ false) (.seq (.seq (.region 2 ⟨o26⟩ false) (.block 0 (.loop (.seq (.region 3 ⟨o25⟩ false) (.seq (.cond (.tmp 18) .skip (.exit 0)) (.seq (.block 1 (.seq (.region 4 ⟨o24⟩ false) (.seq (.seq (.region 5 ⟨o23⟩ false) (.cond (.tmp 28) (.exit 1) .skip)) (.seq (.region 6 ⟨o22⟩ false) (.seq (.seq (.region 7 ⟨o21⟩ false) (.block 2 (.loop (.seq (.seq (.region 8 ⟨o20⟩ false) (.cond (.tmp 35) .skip (.exit 2))) (.seq (.block 3 (.seq (.region 10 ⟨o19⟩ true) (.block 4 (.loop (.seq (.region 11 ⟨o18⟩ false) (.seq (.cond (.tmp 46) .skip (.exit 4)) (.seq (.block 5 (.seq (.region 12 ⟨o17⟩ false) (.seq (.region 13 ⟨o16⟩ false) (.block 6 (.loop (.seq (.region 14 ⟨o15⟩ false) (.seq (.cond (.tmp 53) .skip (.exit 6)) (.seq (.block 7 (.seq (.region 15 ⟨o14⟩ false) (.seq (.region 16 ⟨o13⟩ false) (.cond (.tmp 64) (.seq (.region 17 ⟨o12⟩ false) (.region 18 ⟨o11⟩ false)) .skip)))) (.region 19 ⟨o10⟩ false))))))))) (.region 20 ⟨o8⟩ false)))))))) (.region 9 ⟨o6⟩ false)))))) (.region 21 ⟨o4⟩ false)))))) (.region 22 ⟨o3⟩ false))))))) (.seq (.region 23 ⟨o1⟩ false) .ret))))
theorem body : Tryd.f85.body = some code := by kernel_rfl
theorem main (P : PT) : ∀ env H, (En 81 k12 (B28 P)) env H → AW Tryd.prog T0 code env H (mkQ (ret P) (fun _ _ _ => False) (ret P)) :=
  (r_seq (rB T0_ok (q28 P)) (r_seq (rB T0_ok (q27 P)) (r_seq (r_seq (rB T0_ok (q26 P)) (r_block (rL (l2 P) (fun N2 => (r_seq (rB T0_ok (q25 P N2)) (r_seq (r_cond rfl r_skip (r_exit (fun _ _ h => h))) (r_seq (r_block (r_seq (rB T0_ok (q24 P N2)) (r_seq (r_seq (rB T0_ok (q23 P N2)) (r_cond rfl (r_exit (fun _ _ h => h)) r_skip)) (r_seq (rB T0_ok (q22 P N2)) (r_seq (r_seq (rB T0_ok (q21 P N2)) (r_block (rL (l5 P N2) (fun N5 => (r_seq (r_seq (rB T0_ok (q20 P N2 N5)) (r_cond rfl r_skip (r_exit (fun _ _ h => h)))) (r_seq (r_block (r_seq (rD T0_ok mixed [(0, false), (1, false), (2, false), (3, false), (4, false), (5, false), (6, false), (7, false)] (by kernel_rfl) (q19 P N2 N5)) (r_block (rL (l7 P N2 N5) (fun N7 => (r_seq (rB T0_ok (q18 P N2 N5 N7)) (r_seq (r_cond rfl r_skip (r_exit (fun _ _ h => h))) (r_seq (r_block (r_seq (rB T0_ok (q17 P N2 N5 N7)) (r_seq (rB T0_ok (q16 P N2 N5 N7)) (r_block (rL (l9 P N2 N5 N7) (fun N9 => (r_seq (rB T0_ok (q15 P N2 N5 N7 N9)) (r_seq (r_cond rfl r_skip (r_exit (fun _ _ h => h))) (r_seq (r_block (r_seq (rB T0_ok (q14 P N2 N5 N7 N9)) (r_seq (rB T0_ok (q13 P N2 N5 N7 N9)) (r_cond rfl (r_seq (rB T0_ok (q12 P N2 N5 N7 N9)) (rB T0_ok (q11 P N2 N5 N7 N9))) r_skip)))) (rB T0_ok (q10 P N2 N5 N7 N9))))))))))) (rB T0_ok (q8 P N2 N5 N7)))))))))) (rB T0_ok (q6 P N2 N5)))))))) (rB T0_ok (q4 P N2))))))) (rB T0_ok (q3 P N2))))))))) (r_seq (rB T0_ok (q1 P)) r_ret))))
theorem ac (P : PT) (x0a : Int) (x0b : Value) (x1 : Int) (H : AHeap) (h : B28 P x0a x0b x1 H) : AC Tryd.prog T0 85 [(Value.agg ⟨[(Value.int .i64 x0a), x0b]⟩), (Value.int .u64 x1)] H P :=
  r_fn T0_ok (c := code) (n := 81) Tryd.func85 body (by kernel_rfl) (main P) (En_mk (x0a, x0b, x1, ()) (by kernel_rfl) ⟨by kernel_rfl, by kernel_rfl, trivial⟩ h)

end F85
-- math/bits.OnesCount64
namespace F86
noncomputable def ret (P : PT) : EP := retE T0 35 Tryd.f86 P
abbrev k0 : Sk := [(0,.i .u64)]
noncomputable def o1 := ob Tryd.f86 [.r,.r,.r,.r,.r,.r,.r,.l]
def B1 (P : PT) (x0 : Int) (H : AHeap) : Prop :=
  P (Value.int .i64 (IntKind.i64.wrap (BitVec.ofInt 64 (IntKind.i64.wrap x0) &&& BitVec.ofInt 64 127).toNat)) H
theorem q1 (P : PT) : QB Tryd.prog T0 35 o1 (ret P) k0 (B1 P) := fun _ _ _  => by kernel_rfl
noncomputable def o2 := ob Tryd.f86 [.r,.r,.r,.r,.r,.r,.l]
def B2 (P : PT) (x0 : Int) (H : AHeap) : Prop :=
  ((0 : Int) ≤ 32) ∧ (B1 P (IntKind.u64.wrap (x0 + (Int.fdiv x0 (2 ^ (min (Int.toNat 32) 64))))) H)
theorem q2 (P : PT) : QB Tryd.prog T0 35 o2 (En 35 k0 (B1 P)) k0 (B2 P) := fun _ _ _  => by kernel_rfl
noncomputable def o3 := ob Tryd.f86 [.r,.r,.r,.r,.r,.l]
def B3 (P : PT) (x0 : Int) (H : AHeap) : Prop :=
  ((0 : Int) ≤ 16) ∧ (B2 P (IntKind.u64.wrap (x0 + (Int.fdiv x0 (2 ^ (min (Int.toNat 16) 64))))) H)
theorem q3 (P : PT) : QB Tryd.prog T0 35 o3 (En 35 k0 (B2 P)) k0 (B3 P) := fun _ _ _  => by kernel_rfl
noncomputable def o4 := ob Tryd.f86 [.r,.r,.r,.r,.l]
def B4 (P : PT) (x0 : Int) (H : AHeap) : Prop :=
  ((0 : Int) ≤ 8) ∧ (B3 P (IntKind.u64.wrap (x0 + (Int.fdiv x0 (2 ^ (min (Int.toNat 8) 64))))) H)
theorem q4 (P : PT) : QB Tryd.prog T0 35 o4 (En 35 k0 (B3 P)) k0 (B4 P) := fun _ _ _  => by kernel_rfl
noncomputable def o5 := ob Tryd.f86 [.r,.r,.r,.l]
def B5 (P : PT) (x0 : Int) (H : AHeap) : Prop :=
  ((0 : Int) ≤ 4) ∧ (B4 P (IntKind.u64.wrap (BitVec.ofInt 64 (IntKind.u64.wrap ((Int.fdiv x0 (2 ^ (min (Int.toNat 4) 64))) + x0)) &&& BitVec.ofInt 64 1085102592571150095).toNat) H)
theorem q5 (P : PT) : QB Tryd.prog T0 35 o5 (En 35 k0 (B4 P)) k0 (B5 P) := fun _ _ _  => by kernel_rfl
noncomputable def o6 := ob Tryd.f86 [.r,.r,.l]
def B6 (P : PT) (x0 : Int) (H : AHeap) : Prop :=
  ((0 : Int) ≤ 2) ∧ (B5 P (IntKind.u64.wrap ((IntKind.u64.wrap (BitVec.ofInt 64 (Int.fdiv x0 (2 ^ (min (Int.toNat 2) 64))) &&& BitVec.ofInt 64 3689348814741910323).toNat) + (IntKind.u64.wrap (BitVec.ofInt 64 x0 &&& BitVec.ofInt 64 3689348814741910323).toNat))) H)
theorem q6 (P : PT) : QB Tryd.prog T0 35 o6 (En 35 k0 (B5 P)) k0 (B6 P) := fun _ _ _  => by kernel_rfl
noncomputable def o7 := ob Tryd.f86 [.r,.l]
def B7 (P : PT) (x0 : Int) (H : AHeap) : Prop :=
  ((0 : Int) ≤ 1) ∧ (B6 P (IntKind.u64.wrap ((IntKind.u64.wrap (BitVec.ofInt 64 (Int.fdiv x0 (2 ^ (min (Int.toNat 1) 64))) &&& BitVec.ofInt 64 6148914691236517205).toNat) + (IntKind.u64.wrap (BitVec.ofInt 64 x0 &&& BitVec.ofInt 64 6148914691236517205).toNat))) H)
theorem q7 (P : PT) : QB Tryd.prog T0 35 o7 (En 35 k0 (B6 P)) k0 (B7 P) := fun _ _ _  => by kernel_rfl
noncomputable def o8 := ob Tryd.f86 [.l]
def B8 (P : PT) (x0 : Int) (H : AHeap) : Prop :=
  B7 P x0 H
theorem q8 (P : PT) : QB Tryd.prog T0 35 o8 (En 35 k0 (B7 P)) k0 (B8 P) := fun _ _ _  => by kernel_rfl
noncomputable def code : Code := (.seq (.region 0 ⟨o8⟩ false) (.seq (.region 1 ⟨o7⟩ false) (.seq (.region 2 ⟨o6⟩ false) (.seq (.region 3 ⟨o5⟩ false) (.seq (.region 4 ⟨o4⟩ false) (.seq (.region 5 ⟨o3⟩ false) (.seq (.region 6 ⟨o2⟩ false) (.seq (.region 7 ⟨o1⟩ false) .ret))))))))
theorem body : Tryd.f86.body = some code := by kernel_rfl
theorem main (P : PT) : ∀ env H, (En 35 k0 (B8 P)) env H → AW Tryd.prog T0 code env H (mkQ (ret P) (fun _ _ _ => False) (ret P)) :=
  (r_seq (rB T0_ok (q8 P)) (r_seq (rB T0_ok (q7 P)) (r_seq (rB T0_ok (q6 P)) (r_seq (rB T0_ok (q5 P)) (r_seq (rB T0_ok (q4 P)) (r_seq (rB T0_ok (q3 P)) (r_seq (rB T0_ok (q2 P)) (r_seq (rB T0_ok (q1 P)) r_ret))))))))
theorem ac (P : PT) (x0 : Int) (H : AHeap) (h : B8 P x0 H) : AC Tryd.prog T0 86 [(Value.int .u64 x0)] H P :=
  r_fn T0_ok (c := code) (n := 35) Tryd.func86 body (by kernel_rfl) (main P) (En_mk (x0, ()) (by kernel_rfl) ⟨by kernel_rfl, trivial⟩ h)

end F86
-- slices.IndexFunc[[]loop.example/g01329/impl.Edge,loop.example/g01329/impl.Edge]
namespace F87
noncomputable def ret (P : PT) : EP := retE T0 19 Tryd.f87 P
abbrev k0 : Sk := []
noncomputable def o1 := ob Tryd.f87 [.r,.r,.l]
def B1 (P : PT) (H : AHeap) : Prop :=
  P (Value.int .i64 (-1)) H
theorem q1 (P : PT) : QB Tryd.prog T0 19 o1 (ret P) k0 (B1 P) := fun _ _  => by kernel_rfl
abbrev k1 : Sk := [(0,.v),(1,.v),(7,.i .i64),(8,.i .i64)]
noncomputable def o3 := ob Tryd.f87 [.r,.l,.r,.l,.l,.r,.r,.r]
def B3 (P : PT) (N2 : NTy k1 Pr) (x0 x1 : Value) (x7 x8 : Int) (H : AHeap) : Prop :=
  N2 x0 x1 x7 (IntKind.i64.wrap (x8 + 1)) H
theorem q3 (P : PT) (N2 : NTy k1 Pr) : QB Tryd.prog T0 19 o3 (En 19 k1 N2) k1 (B3 P N2) := fun _ _ _ _ _ _  => by kernel_rfl
abbrev k2 : Sk := [(5,.i .i64)]
noncomputable def o4 := ob Tryd.f87 [.r,.l,.r,.l,.l,.r,.r,.l,.l,.r,.r,.l,.l]
def B4 (P : PT) (N2 : NTy k1 Pr) (x5 : Int) (H : AHeap) : Prop :=
  P (Value.int .i64 x5) H
theorem q4 (P : PT) (N2 : NTy k1 Pr) : QB Tryd.prog T0 19 o4 (ret P) k2 (B4 P N2) := fun _ _ _  => by kernel_rfl
abbrev k3 : Sk := [(0,.v),(1,.v),(5,.i .i64),(7,.i .i64),(8,.i .i64)]
noncomputable def o5 := ob Tryd.f87 [.r,.l,.r,.l,.l,.r,.r,.l,.l,.r,.l]
def B5 (P : PT) (N2 : NTy k1 Pr) (x0 x1 : Value) (x5 x7 x8 : Int) (H : AHeap) : Prop :=
  idxK x0 x5 2 (fun b1 o2 => ldI .i64 H b1 o2 (fun v3 => ldI .i64 H b1 (o2 + 1) (fun v4 => callV Tryd.prog T0 x1 [(Value.agg ⟨[(Value.int .i64 v3), (Value.int .i64 v4)]⟩)] H (fun v5 H6 => asB v5 (fun v7 => pif v7 (B4 P N2 x5 H6) (B3 P N2 x0 x1 x7 x8 H6))))))
theorem q5 (P : PT) (N2 : NTy k1 Pr) : QB Tryd.prog T0 19 o5 (cnd 16 (En 19 k2 (B4 P N2)) (En 19 k1 (B3 P N2))) k3 (B5 P N2) := fun _ _ _ _ _ _ _  => by kernel_rfl
noncomputable def o6 := ob Tryd.f87 [.r,.l,.r,.l,.l,.r,.r,.l,.l,.l]
def B6 (P : PT) (N2 : NTy k1 Pr) (x0 x1 : Value) (x7 x8 : Int) (H : AHeap) : Prop :=
  B5 P N2 x0 x1 x8 x7 x8 H
theorem q6 (P : PT) (N2 : NTy k1 Pr) : QB Tryd.prog T0 19 o6 (En 19 k3 (B5 P N2)) k1 (B6 P N2) := fun _ _ _ _ _ _  => by kernel_rfl
noncomputable def o7 := ob Tryd.f87 [.r,.l,.r,.l,.l,.l]
def B7 (P : PT) (N2 : NTy k1 Pr) (x0 x1 : Value) (x7 x8 : Int) (H : AHeap) : Prop :=
  pif (decide ((x8 : Int) < x7)) (B6 P N2 x0 x1 x7 x8 H) (B1 P H)
theorem q7 (P : PT) (N2 : NTy k1 Pr) : QB Tryd.prog T0 19 o7 (cnd 9 (En 19 k1 (B6 P N2)) (En 19 k0 (B1 P))) k1 (B7 P N2) := fun _ _ _ _ _ _  => by kernel_rfl
def L2 (P : PT) (x0 x1 : Value) (x7 x8 : Int) (H : AHeap) : Prop :=
  ∃ (I : NTy k1 Pr) (μ : NTy k1 (AHeap → Nat)), I x0 x1 x7 x8 H ∧ ∀ y0 y1 y7 y8 G, I y0 y1 y7 y8 G → B7 P (fun z0 z1 z7 z8 G' => I z0 z1 z7 z8 G' ∧ μ z0 z1 z7 z8 G' < μ y0 y1 y7 y8 G) y0 y1 y7 y8 G
theorem l2 (P : PT) : LQ k1 (L2 P) (B7 P) := fun ⟨_,_,_,_,_⟩ _ ⟨I, μ, h0, hI⟩ => ⟨apT _ I, apT _ μ, h0, fun ⟨_,_,_,_,_⟩ _ h => hI _ _ _ _ _  h⟩
abbrev k4 : Sk := [(0,.v),(1,.v)]
noncomputable def o8 := ob Tryd.f87 [.r,.l,.l]
def B8 (P : PT) (x0 x1 : Value) (H : AHeap) : Prop :=
  lenK x0 (fun n1 => L2 P x0 x1 (n1 : Int) 0 H)
theorem q8 (P : PT) : QB Tryd.prog T0 19 o8 (En 19 k1 (L2 P)) k4 (B8 P) := fun _ _ _ _  => by kernel_rfl
noncomputable def o9 := ob Tryd.f87 [.l]
def B9 (P : PT) (x0 x1 : Value) (H : AHeap) : Prop :=
  B8 P x0 x1 H
theorem q9 (P : PT) : QB Tryd.prog T0 19 o9 (En 19 k4 (B8 P)) k4 (B9 P) := fun _ _ _ _  => by kernel_rfl
noncomputable def code : Code := (.seq (.region 0 ⟨o9⟩ false) (.seq (.seq (.region 1 ⟨o8⟩ false) (.block 0 (.loop (.seq (.region 2 ⟨o7⟩ false) (.seq (.cond (.tmp 9) .skip (.exit 0)) (.seq (.block 1 (.seq (.region 3 ⟨o6⟩ false) (.seq (.region 4 ⟨o5⟩ false) (.cond (.tmp 16) (.seq (.region 5 ⟨o4⟩ false) .ret) .skip)))) (.region 6 ⟨o3⟩ false))))))) (.seq (.region 7 ⟨o1⟩ false) .ret)))
theorem body : Tryd.f87.body = some code := by kernel_rfl
theorem main (P : PT) : ∀ env H, (En 19 k4 (B9 P)) env H → AW Tryd.prog T0 code env H (mkQ (ret P) (fun _ _ _ => False) (ret P)) :=
  (r_seq (rB T0_ok (q9 P)) (r_seq (r_seq (rB T0_ok (q8 P)) (r_block (rL (l2 P) (fun N2 => (r_seq (rB T0_ok (q7 P N2)) (r_seq (r_cond rfl r_skip (r_exit (fun _ _ h => h))) (r_seq (r_block (r_seq (rB T0_ok (q6 P N2)) (r_seq (rB T0_ok (q5 P N2)) (r_cond rfl (r_seq (rB T0_ok (q4 P N2)) r_ret) r_skip)))) (rB T0_ok (q3 P N2))))))))) (r_seq (rB T0_ok (q1 P)) r_ret)))
theorem ac (P : PT) (x0 x1 : Value) (H : AHeap) (h : B9 P x0 x1 H) : AC Tryd.prog T0 87 [x0, x1] H P :=
  r_fn T0_ok (c := code) (n := 19) Tryd.func87 body (by kernel_rfl) (main P) (En_mk (x0, x1, ()) (by kernel_rfl) ⟨by kernel_rfl, by kernel_rfl, trivial⟩ h)

end F87
-- cmp.Compare[int64]
namespace F88
noncomputable def ret (P : PT) : EP := retE T0 20 Tryd.f88 P
abbrev k0 : Sk := []
noncomputable def o1 := ob Tryd.f88 [.r,.r,.r,.r,.r,.r,.r,.l]
def B1 (P : PT) (H : AHeap) : Prop :=
  P (Value.int .i64 0) H
theorem q1 (P : PT) : QB Tryd.prog T0 20 o1 (ret P) k0 (B1 P) := fun _ _  => by kernel_rfl
noncomputable def o2 := ob Tryd.f88 [.r,.r,.r,.r,.r,.r,.l,.r,.l,.l]
def B2 (P : PT) (H : AHeap) : Prop :=
  P (Value.int .i64 1) H
theorem q2 (P : PT) : QB Tryd.prog T0 20 o2 (ret P) k0 (B2 P) := fun _ _  => by kernel_rfl
abbrev k1 : Sk := [(0,.i .i64),(1,.i .i64)]
noncomputable def o3 := ob Tryd.f88 [.r,.r,.r,.r,.r,.r,.l,.l]
def B3 (P : PT) (x0 x1 : Int) (H : AHeap) : Prop :=
  pif (decide ((x0 : Int) > x1)) (B2 P H) (B1 P H)
theorem q3 (P : PT) : QB Tryd.prog T0 20 o3 (cnd 19 (En 20 k0 (B2 P)) (En 20 k0 (B1 P))) k1 (B3 P) := fun _ _ _ _  => by kernel_rfl
noncomputable def o4 := ob Tryd.f88 [.r,.r,.r,.r,.r,.l,.r,.l,.l]
def B4 (P : PT) (H : AHeap) : Prop :=
  P (Value.int .i64 (-1)) H
theorem q4 (P : PT) : QB Tryd.prog T0 20 o4 (ret P) k0 (B4 P) := fun _ _  => by kernel_rfl
noncomputable def o5 := ob Tryd.f88 [.r,.r,.r,.r,.r,.l,.l]
def B5 (P : PT) (x0 x1 : Int) (H : AHeap) : Prop :=
  pif (decide ((x0 : Int) < x1)) (B4 P H) (B3 P x0 x1 H)
theorem q5 (P : PT) : QB Tryd.prog T0 20 o5 (cnd 16 (En 20 k0 (B4 P)) (En 20 k1 (B3 P))) k1 (B5 P) := fun _ _ _ _  => by kernel_rfl
noncomputable def o6 := ob Tryd.f88 [.r,.r,.r,.r,.l,.r,.l,.l]
def B6 (P : PT) (H : AHeap) : Prop :=
  P (Value.int .i64 1) H
theorem q6 (P : PT) : QB Tryd.prog T0 20 o6 (ret P) k0 (B6 P) := fun _ _  => by kernel_rfl
abbrev k2 : Sk := [(0,.i .i64),(1,.i .i64),(6,.b)]
noncomputable def o7 := ob Tryd.f88 [.r,.r,.r,.r,.l,.l]
def B7 (P : PT) (x0 x1 : Int) (x6 : Bool) (H : AHeap) : Prop :=
  pif x6 (B6 P H) (B5 P x0 x1 H)
theorem q7 (P : PT) : QB Tryd.prog T0 20 o7 (cnd 13 (En 20 k0 (B6 P)) (En 20 k1 (B5 P))) k2 (B7 P) := fun _ _ _ _ _  => by kernel_rfl
noncomputable def o8 := ob Tryd.f88 [.r,.r,.r,.l,.r,.l,.r,.l]
def B8 (P : PT) (H : AHeap) : Prop :=
  P (Value.int .i64 (-1)) H
theorem q8 (P : PT) : QB Tryd.prog T0 20 o8 (ret P) k0 (B8 P) := fun _ _  => by kernel_rfl
noncomputable def o9 := ob Tryd.f88 [.r,.r,.r,.l,.r,.l,.l,.r,.l,.l]
def B9 (P : PT) (H : AHeap) : Prop :=
  P (Value.int .i64 0) H
theorem q9 (P : PT) : QB Tryd.prog T0 20 o9 (ret P) k0 (B9 P) := fun _ _  => by kernel_rfl
abbrev k3 : Sk := [(6,.b)]
noncomputable def o10 := ob Tryd.f88 [.r,.r,.r,.l,.r,.l,.l,.l]
def B10 (P : PT) (x6 : Bool) (H : AHeap) : Prop :=
  pif x6 (B9 P H) (B8 P H)
theorem q10 (P : PT) : QB Tryd.prog T0 20 o10 (cnd 12 (En 20 k0 (B9 P)) (En 20 k0 (B8 P))) k3 (B10 P) := fun _ _ _  => by kernel_rfl
abbrev k4 : Sk := [(0,.i .i64),(1,.i .i64),(5,.b),(6,.b)]
noncomputable def o11 := ob Tryd.f88 [.r,.r,.r,.l,.l]
def B11 (P : PT) (x0 x1 : Int) (x5 x6 : Bool) (H : AHeap) : Prop :=
  pif x5 (B10 P x6 H) (B7 P x0 x1 x6 H)
theorem q11 (P : PT) : QB Tryd.prog T0 20 o11 (cnd 11 (En 20 k3 (B10 P)) (En 20 k2 (B7 P))) k4 (B11 P) := fun _ _ _ _ _ _  => by kernel_rfl
abbrev k5 : Sk := [(0,.i .i64),(1,.i .i64),(5,.b)]
noncomputable def o12 := ob Tryd.f88 [.r,.r,.l]
def B12 (P : PT) (x0 x1 : Int) (x5 : Bool) (H : AHeap) : Prop :=
  AC Tryd.prog T0 92 [(Value.int .i64 x1)] H (fun v1 H2 => asB v1 (fun v3 => B11 P x0 x1 x5 v3 H2))
theorem q12 (P : PT) : QB Tryd.prog T0 20 o12 (En 20 k4 (B11 P)) k5 (B12 P) := fun _ _ _ _ _  => by kernel_rfl
noncomputable def o13 := ob Tryd.f88 [.r,.l]
def B13 (P : PT) (x0 x1 : Int) (H : AHeap) : Prop :=
  AC Tryd.prog T0 92 [(Value.int .i64 x0)] H (fun v1 H2 => asB v1 (fun v3 => B12 P x0 x1 v3 H2))
theorem q13 (P : PT) : QB Tryd.prog T0 20 o13 (En 20 k5 (B12 P)) k1 (B13 P) := fun _ _ _ _  => by kernel_rfl
noncomputable def o14 := ob Tryd.f88 [.l]
def B14 (P : PT) (x0 x1 : Int) (H : AHeap) : Prop :=
  B13 P x0 x1 H
theorem q14 (P : PT) : QB Tryd.prog T0 20 o14 (En 20 k1 (B13 P)) k1 (B14 P) := fun _ _ _ _  => by kernel_rfl
noncomputable def code : Code := (.seq (.region 0 ⟨o14⟩ false) (.seq (.region 1 ⟨o13⟩ false) (.seq (.region 2 ⟨o12⟩ false) (.seq (.seq (.region 3 ⟨o11⟩ false) (.cond (.tmp 11) (.seq (.seq (.region 4 ⟨o10⟩ false) (.cond (.tmp 12) (.seq (.region 5 ⟨o9⟩ false) .ret) .skip)) (.seq (.region 6 ⟨o8⟩ false) .ret)) .skip)) (.seq (.seq (.region 7 ⟨o7⟩ false) (.cond (.tmp 13) (.seq (.region 8 ⟨o6⟩ false) .ret) .skip)) (.seq (.seq (.region 9 ⟨o5⟩ false) (.cond (.tmp 16) (.seq (.region 10 ⟨o4⟩ false) .ret) .skip)) (.seq (.seq (.region 11 ⟨o3⟩ false) (.cond (.tmp 19) (.seq (.region 12 ⟨o2⟩ false) .ret) .skip)) (.seq (.region 13 ⟨o1⟩ false) .ret))))))))
theorem body : Tryd.f88.body = some code := by kernel_rfl
theorem main (P : PT) : ∀ env H, (En 20 k1 (B14 P)) env H → AW Tryd.prog T0 code env H (mkQ (ret P) (fun _ _ _ => False) (ret P)) :=
  (r_seq (rB T0_ok (q14 P)) (r_seq (rB T0_ok (q13 P)) (r_seq (rB T0_ok (q12 P)) (r_seq (r_seq (rB T0_ok (q11 P)) (r_cond rfl (r_seq (r_seq (rB T0_ok (q10 P)) (r_cond rfl (r_seq (rB T0_ok (q9 P)) r_ret) r_skip)) (r_seq (rB T0_ok (q8 P)) r_ret)) r_skip)) (r_seq (r_seq (rB T0_ok (q7 P)) (r_cond rfl (r_seq (rB T0_ok (q6 P)) r_ret) r_skip)) (r_seq (r_seq (rB T0_ok (q5 P)) (r_cond rfl (r_seq (rB T0_ok (q4 P)) r_ret) r_skip)) (r_seq (r_seq (rB T0_ok (q3 P)) (r_cond rfl (r_seq (rB T0_ok (q2 P)) r_ret) r_skip)) (r_seq (rB T0_ok (q1 P)) r_ret))))))))
theorem ac (P : PT) (x0 x1 : Int) (H : AHeap) (h : B14 P x0 x1 H) : AC Tryd.prog T0 88 [(Value.int .i64 x0), (Value.int .i64 x1)] H P :=
  r_fn T0_ok (c := code) (n := 20) Tryd.func88 body (by kernel_rfl) (main P) (En_mk (x0, x1, ()) (by kernel_rfl) ⟨by kernel_rfl, by kernel_rfl, trivial⟩ h)

end F88
-- slices.ContainsFunc[[]int,int]
namespace F89
noncomputable def ret (P : PT) : EP := retE T0 9 Tryd.f89 P
abbrev k0 : Sk := [(0,.v),(1,.v)]
noncomputable def o1 := ob Tryd.f89 [.r,.l]
def B1 (P : PT) (x0 x1 : Value) (H : AHeap) : Prop :=
  AC Tryd.prog T0 93 [x0, x1] H (fun v1 H2 => asI .i64 v1 (fun v3 => P (Value.bool (decide ((v3 : Int) ≥ 0))) H2))
theorem q1 (P : PT) : QB Tryd.prog T0 9 o1 (ret P) k0 (B1 P) := fun _ _ _ _  => by kernel_rfl
noncomputable def o2 := ob Tryd.f89 [.l]
def B2 (P : PT) (x0 x1 : Value) (H : AHeap) : Prop :=
  B1 P x0 x1 H
theorem q2 (P : PT) : QB Tryd.prog T0 9 o2 (En 9 k0 (B1 P)) k0 (B2 P) := fun _ _ _ _  => by kernel_rfl
noncomputable def code : Code := (.seq (.region 0 ⟨o2⟩ false) (.seq (.region 1 ⟨o1⟩ false) .ret))
theorem body : Tryd.f89.body = some code := by kernel_rfl
theorem main (P : PT) : ∀ env H, (En 9 k0 (B2 P)) env H → AW Tryd.prog T0 code env H (mkQ (ret P) (fun _ _ _ => False) (ret P)) :=
  (r_seq (rB T0_ok (q2 P)) (r_seq (rB T0_ok (q1 P)) r_ret))
theorem ac (P : PT) (x0 x1 : Value) (H : AHeap) (h : B2 P x0 x1 H) : AC Tryd.prog T0 89 [x0, x1] H P :=
  r_fn T0_ok (c := code) (n := 9) Tryd.func89 body (by kernel_rfl) (main P) (En_mk (x0, x1, ()) (by kernel_rfl) ⟨by kernel_rfl, by kernel_rfl, trivial⟩ h)

end F89
-- loop.example/g01329/impl.areAll[int]$1
namespace F90
noncomputable def ret (P : PT) : EP := retE T0 8 Tryd.f90 P
abbrev k0 : Sk := [(0,.i .i64),(1,.v)]
noncomputable def o1 := ob Tryd.f90 [.r,.l]
def B1 (P : PT) (x0 : Int) (x1 : Value) (H : AHeap) : Prop :=
  asP x1 (fun b1 o2 => ld1 H b1 o2 (fun v3 => callV Tryd.prog T0 v3 [(Value.int .i64 x0)] H (fun v4 H5 => asB v4 (fun v6 => P (Value.bool (!v6)) H5))))
theorem q1 (P : PT) : QB Tryd.prog T0 8 o1 (ret P) k0 (B1 P) := fun _ _ _ _  => by kernel_rfl
noncomputable def o2 := ob Tryd.f90 [.l]
def B2 (P : PT) (x0 : Int) (x1 : Value) (H : AHeap) : Prop :=
  B1 P x0 x1 H
theorem q2 (P : PT) : QB Tryd.prog T0 8 o2 (En 8 k0 (B1 P)) k0 (B2 P) := fun _ _ _ _  => by kernel_rfl
noncomputable def code : Code := (.seq (.region 0 ⟨o2⟩ false) (.seq (.region 1 ⟨o1⟩ false) .ret))
theorem body : Tryd.f90.body = some code := by kernel_rfl
theorem main (P : PT) : ∀ env H, (En 8 k0 (B2 P)) env H → AW Tryd.prog T0 code env H (mkQ (ret P) (fun _ _ _ => False) (ret P)) :=
  (r_seq (rB T0_ok (q2 P)) (r_seq (rB T0_ok (q1 P)) r_ret))
theorem ac (P : PT) (x0 : Int) (x1 : Value) (H : AHeap) (h : B2 P x0 x1 H) : AC Tryd.prog T0 90 [(Value.int .i64 x0), x1] H P :=
  r_fn T0_ok (c := code) (n := 8) Tryd.func90 body (by kernel_rfl) (main P) (En_mk (x0, x1, ()) (by kernel_rfl) ⟨by kernel_rfl, by kernel_rfl, trivial⟩ h)

end F90
end Go.Proofs
