import Derived.Test.YtngacbdogjmpaaaGreatDoorX33S
set_option linter.unusedVariables false
set_option maxRecDepth 100000
namespace Go.Proofs
open Go.Abs
noncomputable section
namespace F112
abbrev E := En 25
abbrev Q := QB Tryz.prog T0 25
def O (k : Nat) := ob Tryz.f112 (pth k)
def ret (P : PT) : EP := retE T0 25 Tryz.f112 P
abbrev k0 : Sk := [(5,.v)]
def o1 := O 30
def B1 (P : PT) : Y k0 := fun x5 H =>
  P x5 H
theorem q1 P : Q o1 (ret P) k0 (B1 P) := fun _ _ _ => by kernel_rfl
abbrev k1 : Sk := [(1,J),(5,.v),(9,.v),(10,J),(11,J)]
def o3 := O 935
def B3 (P : PT) (N2 : Y k1) : Y k1 := fun x1 x5 x9 x10 x11 H =>
  N2 x1 x5 x9 x10 (IntKind.i64.wrap (x11 + 1)) H
theorem q3 P N2 : Q o3 (E k1 N2) k1 (B3 P N2) := fun _ _ _ _ _ _ _ => by kernel_rfl
abbrev k2 : Sk := [(1,J),(5,.v),(6,J),(9,.v),(10,J),(11,J)]
def o4 := O 14950
def B4 (P : PT) (N2 : Y k1) : Y k2 := fun x1 x5 x6 x9 x10 x11 H =>
  newK H [(Value.int .i64 x6)] 2 (fun b1 H2 => apK T0 2 H2 x5 (Value.slice (some ⟨b1, 0, none⟩) 1 (1 + 1)) (fun v3 H4 => B3 P N2 x1 v3 x9 x10 x11 H4))
theorem q4 P N2 : Q o4 (E k1 (B3 P N2)) k2 (B4 P N2) := fun _ _ _ _ _ _ _ _ => by kernel_rfl
abbrev k3 : Sk := [(1,J),(5,.v),(6,J),(7,.x),(9,.v),(10,J),(11,J)]
def o5 := O 7474
def B5 (P : PT) (N2 : Y k1) : Y k3 := fun x1 x5 x6 x7 x9 x10 x11 H =>
  ldI .i64 H x7 0 (fun v1 => ldI .i64 H x7 1 (fun v2 => AC Tryz.prog T0 169 [(Value.agg ⟨[(Value.int .i64 v1), (Value.int .i64 v2)]⟩), (Value.int .i64 x1)] H (fun v3 H4 => asB v3 (fun v5 => pif v5 (B4 P N2 x1 x5 x6 x9 x10 x11 H4) (B3 P N2 x1 x5 x9 x10 x11 H4)))))
theorem q5 P N2 : Q o5 (cnd 18 (E k2 (B4 P N2)) (E k1 (B3 P N2))) k3 (B5 P N2) := fun _ _ _ _ _ _ _ _ _ => by kernel_rfl
def o6 := O 3736
def B6 (P : PT) (N2 : Y k1) : Y k1 := fun x1 x5 x9 x10 x11 H =>
  idxK x9 x11 2 (fun b1 o2 => ldI .i64 H b1 o2 (fun v3 => ldI .i64 H b1 (o2 + 1) (fun v4 => newK H [(Value.int .i64 0), (Value.int .i64 0)] 28 (fun b5 H6 => stK H6 b5 0 [(Value.int .i64 v3), (Value.int .i64 v4)] (fun H7 => B5 P N2 x1 x5 x11 b5 x9 x10 x11 H7)))))
theorem q6 P N2 : Q o6 (E k3 (B5 P N2)) k1 (B6 P N2) := fun _ _ _ _ _ _ _ => by kernel_rfl
def o7 := O 232
def B7 (P : PT) (N2 : Y k1) : Y k1 := fun x1 x5 x9 x10 x11 H =>
  pif (decide ((x11 : Int) < x10)) (B6 P N2 x1 x5 x9 x10 x11 H) (B1 P x5 H)
theorem q7 P N2 : Q o7 (cnd 12 (E k1 (B6 P N2)) (E k0 (B1 P))) k1 (B7 P N2) := fun _ _ _ _ _ _ _ => by kernel_rfl
def L2 (P : PT) : Y k1 := fun x1 x5 x9 x10 x11 H =>
  ∃ (I : Y k1) (μ : NTy k1 (AHeap → Nat)), I x1 x5 x9 x10 x11 H ∧ ∀ y1 y5 y9 y10 y11 G, I y1 y5 y9 y10 y11 G → B7 P (fun z1 z5 z9 z10 z11 G' => I z1 z5 z9 z10 z11 G' ∧ μ z1 z5 z9 z10 z11 G' < μ y1 y5 y9 y10 y11 G) y1 y5 y9 y10 y11 G
theorem l2 P : LQ k1 (L2 P) (B7 P) := fun ⟨_,_,_,_,_,_⟩ _ ⟨I, μ, h0, hI⟩ => ⟨apT _ I, apT _ μ, h0, fun ⟨_,_,_,_,_,_⟩ _ h => hI _ _ _ _ _ _  h⟩
abbrev k4 : Sk := [(1,J),(2,.x),(5,.v)]
def o8 := O 28
def B8 (P : PT) : Y k4 := fun x1 x2 x5 H =>
  ld1 H x2 1 (fun v1 => lenK v1 (fun n2 => L2 P x1 x5 v1 (n2 : Int) 0 H))
theorem q8 P : Q o8 (E k1 (L2 P)) k4 (B8 P) := fun _ _ _ _ _ => by kernel_rfl
abbrev k5 : Sk := [(1,J),(2,.x)]
def o9 := O 6
def B9 (P : PT) : Y k5 := fun x1 x2 H =>
  B8 P x1 x2 (Value.slice none 0 0) H
theorem q9 P : Q o9 (E k4 (B8 P)) k5 (B9 P) := fun _ _ _ _ => by kernel_rfl
abbrev k6 : Sk := [(0,.g [.i,.v]),(1,J)]
def o10 := O 2
def B10 (P : PT) : Y k6 := fun x0a x0b x1 H =>
  newK H [(Value.int .i64 x0a), x0b] 31 (fun b1 H2 => B9 P x1 b1 H2)
theorem q10 P : Q o10 (E k5 (B9 P)) k6 (B10 P) := fun _ _ _ _ _ => by kernel_rfl
def code : Code := (.seq (R 0 o10) (.seq (R 1 o9) (.seq (.seq (R 2 o8) (.block 0 (.loop (.seq (R 3 o7) (.seq (.cond (.tmp 12) .skip (.exit 0)) (.seq (.block 1 (.seq (R 4 o6) (.seq (R 5 o5) (.cond (.tmp 18) (R 6 o4) .skip)))) (R 7 o3))))))) (.seq (R 8 o1) .ret))))
theorem body : Tryz.f112.body = some code := by kernel_rfl
theorem main (P : PT) : ∀ env H, (En 25 k6 (B10 P)) env H → AW Tryz.prog T0 code env H (M (ret P)) :=
  (r_seq (b (q10 P)) (r_seq (b (q9 P)) (r_seq (r_seq (b (q8 P)) (r_block (rL (l2 P) (fun N2 => (r_seq (b (q7 P N2)) (r_seq (r_cond rfl r_skip (r_exit (fun _ _ h => h))) (r_seq (r_block (r_seq (b (q6 P N2)) (r_seq (b (q5 P N2)) (r_cond rfl (b (q4 P N2)) r_skip)))) (b (q3 P N2))))))))) (r_seq (b (q1 P)) r_ret))))
theorem ac (P : PT) (x0a : Int) (x0b : Value) (x1 : Int) (H : AHeap) (h : B10 P x0a x0b x1 H) : AC Tryz.prog T0 112 [(Value.agg ⟨[(Value.int .i64 x0a), x0b]⟩), (Value.int .i64 x1)] H P :=
  r_fn T0_ok (c := code) (n := 25) Tryz.func112 body (by kernel_rfl) (main P) (En_mk (x0a, x0b, x1, ()) (by kernel_rfl) ⟨by kernel_rfl, by kernel_rfl, trivial⟩ h)

end F112
namespace F114
abbrev E := En 15
abbrev Q := QB Tryz.prog T0 15
def O (k : Nat) := ob Tryz.f114 (pth k)
def ret (P : PT) : EP := retE T0 15 Tryz.f114 P
abbrev k0 : Sk := [(0,J),(1,J),(2,J)]
def o1 := O 6
def B1 (P : PT) : Y k0 := fun x0 x1 x2 H =>
  pif (decide ((x1 : Int) ≤ x0)) (P (Value.bool (decide ((x0 : Int) ≤ x2))) H) (P (Value.bool false) H)
theorem q1 P : Q o1 (ret P) k0 (B1 P) := fun _ _ _ _ _ => by kernel_rfl
def o2 := O 2
def B2 (P : PT) : Y k0 := fun x0 x1 x2 H =>
  B1 P x0 x1 x2 H
theorem q2 P : Q o2 (E k0 (B1 P)) k0 (B2 P) := fun _ _ _ _ _ => by kernel_rfl
def code : Code := (.seq (R 0 o2) (.seq (R 1 o1) .ret))
theorem body : Tryz.f114.body = some code := by kernel_rfl
theorem main (P : PT) : ∀ env H, (En 15 k0 (B2 P)) env H → AW Tryz.prog T0 code env H (M (ret P)) :=
  (r_seq (b (q2 P)) (r_seq (b (q1 P)) r_ret))
theorem ac (P : PT) (x0 x1 x2 : Int) (H : AHeap) (h : B2 P x0 x1 x2 H) : AC Tryz.prog T0 114 [(Value.int .i64 x0), (Value.int .i64 x1), (Value.int .i64 x2)] H P :=
  r_fn T0_ok (c := code) (n := 15) Tryz.func114 body (by kernel_rfl) (main P) (En_mk (x0, x1, x2, ()) (by kernel_rfl) ⟨by kernel_rfl, by kernel_rfl, by kernel_rfl, trivial⟩ h)

end F114
namespace F115
abbrev E := En 5
abbrev Q := QB Tryz.prog T0 5
def O (k : Nat) := ob Tryz.f115 (pth k)
def ret (P : PT) : EP := retE T0 5 Tryz.f115 P
abbrev k0 : Sk := [(0,.v)]
def o1 := O 6
def B1 (P : PT) : Y k0 := fun x0 H =>
  lenK x0 (fun n1 => P (Value.int .i64 (n1 : Int)) H)
theorem q1 P : Q o1 (ret P) k0 (B1 P) := fun _ _ _ => by kernel_rfl
def o2 := O 2
def B2 (P : PT) : Y k0 := fun x0 H =>
  B1 P x0 H
theorem q2 P : Q o2 (E k0 (B1 P)) k0 (B2 P) := fun _ _ _ => by kernel_rfl
def code : Code := (.seq (R 0 o2) (.seq (R 1 o1) .ret))
theorem body : Tryz.f115.body = some code := by kernel_rfl
theorem main (P : PT) : ∀ env H, (En 5 k0 (B2 P)) env H → AW Tryz.prog T0 code env H (M (ret P)) :=
  (r_seq (b (q2 P)) (r_seq (b (q1 P)) r_ret))
theorem ac (P : PT) (x0 : Value) (H : AHeap) (h : B2 P x0 H) : AC Tryz.prog T0 115 [x0] H P :=
  r_fn T0_ok (c := code) (n := 5) Tryz.func115 body (by kernel_rfl) (main P) (En_mk (x0, ()) (by kernel_rfl) ⟨by kernel_rfl, trivial⟩ h)

end F115
namespace F117
abbrev E := En 69
abbrev Q := QB Tryz.prog T0 69
def O (k : Nat) := ob Tryz.f117 (pth k)
def ret (P : PT) : EP := retE T0 69 Tryz.f117 P
abbrev k0 : Sk := [(3,.v)]
def o1 := O 30
def B1 (P : PT) : Y k0 := fun x3 H =>
  P x3 H
theorem q1 P : Q o1 (ret P) k0 (B1 P) := fun _ _ _ => by kernel_rfl
abbrev k1 : Sk := [(0,.v),(3,.v),(4,J)]
def o3 := O 467
def B3 (P : PT) (N2 : Y k1) : Y k1 := fun x0 x3 x4 H =>
  N2 x0 x3 (IntKind.i64.wrap (x4 + 1)) H
theorem q3 P N2 : Q o3 (E k1 N2) k1 (B3 P N2) := fun _ _ _ _ _ => by kernel_rfl
abbrev k2 : Sk := [(0,.v),(3,.v),(4,J),(5,.x),(6,J)]
def o4 := O 7463
def B4 (P : PT) (N2 : Y k1) : Y k2 := fun x0 x3 x4 x5 x6 H =>
  ldI .i64 H x5 0 (fun v1 => ldI .i64 H x5 1 (fun v2 => idxK x3 x6 2 (fun b3 o4 => stK H b3 o4 [(Value.int .i64 v1), (Value.int .i64 v2)] (fun H5 => B3 P N2 x0 x3 x4 H5))))
theorem q4 P N2 : Q o4 (E k1 (B3 P N2)) k2 (B4 P N2) := fun _ _ _ _ _ _ _ => by kernel_rfl
def o6 := O 238789
def B6 (P : PT) (N2 : Y k1) (N5 : Y k2) : Y k2 := fun x0 x3 x4 x5 x6 H =>
  N5 x0 x3 x4 x5 (IntKind.i64.wrap (x6 - 1)) H
theorem q6 P N2 N5 : Q o6 (E k2 N5) k2 (B6 P N2 N5) := fun _ _ _ _ _ _ _ => by kernel_rfl
def o7 := O 238788
def B7 (P : PT) (N2 : Y k1) (N5 : Y k2) : Y k2 := fun x0 x3 x4 x5 x6 H =>
  idxK x3 (IntKind.i64.wrap (x6 - 1)) 2 (fun b1 o2 => ldI .i64 H b1 o2 (fun v3 => ldI .i64 H b1 (o2 + 1) (fun v4 => idxK x3 x6 2 (fun b5 o6 => stK H b5 o6 [(Value.int .i64 v3), (Value.int .i64 v4)] (fun H7 => B6 P N2 N5 x0 x3 x4 x5 x6 H7)))))
theorem q7 P N2 N5 : Q o7 (E k2 (B6 P N2 N5)) k2 (B7 P N2 N5) := fun _ _ _ _ _ _ _ => by kernel_rfl
def o8 := O 119392
def B8 (P : PT) (N2 : Y k1) (N5 : Y k2) : Y k2 := fun x0 x3 x4 x5 x6 H =>
  pif (decide ((x6 : Int) > 0)) (ldI .i64 H x5 0 (fun v1 => ldI .i64 H x5 1 (fun v2 => idxK x3 (IntKind.i64.wrap (x6 - 1)) 2 (fun b3 o4 => ldI .i64 H b3 o4 (fun v5 => ldI .i64 H b3 (o4 + 1) (fun v6 => AC Tryz.prog T0 131 [(Value.agg ⟨[(Value.int .i64 v1), (Value.int .i64 v2)]⟩), (Value.agg ⟨[(Value.int .i64 v5), (Value.int .i64 v6)]⟩)] H (fun v7 H8 => asB v7 (fun v9 => pif v9 (B7 P N2 N5 x0 x3 x4 x5 x6 H8) (B4 P N2 x0 x3 x4 x5 x6 H8))))))))) (B4 P N2 x0 x3 x4 x5 x6 H)
theorem q8 (P : PT) (N2 : Y k1) (N5 : Y k2) : QD Tryz.prog T0 69 o8 [(0, false), (1, false), (2, false), (3, false), (4, false), (5, false), (6, false), (7, false), (8, false), (9, false), (10, false)] (cnd 53 (En 69 k2 (B7 P N2 N5)) (En 69 k2 (B4 P N2))) k2 (B8 P N2 N5) := fun _ _ _ _ _ _ _  => by kernel_rfl
def L5 (P : PT) (N2 : Y k1) : Y k2 := fun x0 x3 x4 x5 x6 H =>
  ∃ (I : Y k2) (μ : NTy k2 (AHeap → Nat)), I x0 x3 x4 x5 x6 H ∧ ∀ y0 y3 y4 y5 y6 G, I y0 y3 y4 y5 y6 G → B8 P N2 (fun z0 z3 z4 z5 z6 G' => I z0 z3 z4 z5 z6 G' ∧ μ z0 z3 z4 z5 z6 G' < μ y0 y3 y4 y5 y6 G) y0 y3 y4 y5 y6 G
theorem l5 P N2 : LQ k2 (L5 P N2) (B8 P N2) := fun ⟨_,_,_,_,_,_⟩ _ ⟨I, μ, h0, hI⟩ => ⟨apT _ I, apT _ μ, h0, fun ⟨_,_,_,_,_,_⟩ _ h => hI _ _ _ _ _ _  h⟩
def o9 := O 3730
def B9 (P : PT) (N2 : Y k1) : Y k2 := fun x0 x3 x4 x5 x6 H =>
  ldI .i64 H x5 0 (fun v1 => ldI .i64 H x5 1 (fun v2 => newK H [(Value.int .i64 v1), (Value.int .i64 v2)] 28 (fun b3 H4 => apK T0 28 H4 x3 (Value.slice (some ⟨b3, 0, none⟩) 1 (1 + 1)) (fun v5 H6 => L5 P N2 x0 v5 x4 x5 x6 H6))))
theorem q9 P N2 : Q o9 (E k2 (L5 P N2)) k2 (B9 P N2) := fun _ _ _ _ _ _ _ => by kernel_rfl
def o10 := O 1864
def B10 (P : PT) (N2 : Y k1) : Y k1 := fun x0 x3 x4 H =>
  idxK x0 x4 2 (fun b1 o2 => ldI .i64 H b1 o2 (fun v3 => idxK x0 x4 2 (fun b4 o5 => ldI .i64 H b4 (o5 + 1) (fun v6 => idxK x0 x4 2 (fun b7 o8 => ldI .i64 H b7 o8 (fun v9 => idxK x0 x4 2 (fun b10 o11 => ldI .i64 H b10 (o11 + 1) (fun v12 => lenK x3 (fun n13 => newK H [(Value.int .i64 0), (Value.int .i64 0)] 28 (fun b14 H15 => stK H15 b14 0 [(Value.int .i64 (if v6 < v3 then v6 else v3)), (Value.int .i64 (if v12 > v9 then v12 else v9))] (fun H16 => B9 P N2 x0 x3 x4 b14 (n13 : Int) H16)))))))))))
theorem q10 (P : PT) (N2 : Y k1) : QD Tryz.prog T0 69 o10 [(0, false), (1, false), (2, false), (3, false), (4, false), (5, false), (6, false), (7, false), (8, false), (9, false), (10, false), (11, false), (12, false), (13, false), (14, false), (15, false), (16, false), (17, false), (18, false), (19, false), (20, false), (21, false), (22, false), (23, false), (24, false), (25, false), (26, false), (27, false)] (En 69 k2 (B9 P N2)) k1 (B10 P N2) := fun _ _ _ _ _  => by kernel_rfl
def o11 := O 464
def B11 (P : PT) (N2 : Y k1) : Y k1 := fun x0 x3 x4 H =>
  lenK x0 (fun n1 => pif (decide ((x4 : Int) < (n1 : Int))) (B10 P N2 x0 x3 x4 H) (B1 P x3 H))
theorem q11 P N2 : Q o11 (cnd 11 (E k1 (B10 P N2)) (E k0 (B1 P))) k1 (B11 P N2) := fun _ _ _ _ _ => by kernel_rfl
def L2 (P : PT) : Y k1 := fun x0 x3 x4 H =>
  ∃ (I : Y k1) (μ : NTy k1 (AHeap → Nat)), I x0 x3 x4 H ∧ ∀ y0 y3 y4 G, I y0 y3 y4 G → B11 P (fun z0 z3 z4 G' => I z0 z3 z4 G' ∧ μ z0 z3 z4 G' < μ y0 y3 y4 G) y0 y3 y4 G
theorem l2 P : LQ k1 (L2 P) (B11 P) := fun ⟨_,_,_,_⟩ _ ⟨I, μ, h0, hI⟩ => ⟨apT _ I, apT _ μ, h0, fun ⟨_,_,_,_⟩ _ h => hI _ _ _ _  h⟩
abbrev k3 : Sk := [(0,.v),(3,.v)]
def o12 := O 28
def B12 (P : PT) : Y k3 := fun x0 x3 H =>
  L2 P x0 x3 0 H
theorem q12 P : Q o12 (E k1 (L2 P)) k3 (B12 P) := fun _ _ _ _ => by kernel_rfl
abbrev k4 : Sk := [(0,.v)]
def o13 := O 6
def B13 (P : PT) : Y k4 := fun x0 H =>
  newK H [] 28 (fun b1 H2 => B12 P x0 (Value.slice (some ⟨b1, 0, none⟩) 0 (0 + 1)) H2)
theorem q13 P : Q o13 (E k3 (B12 P)) k4 (B13 P) := fun _ _ _ => by kernel_rfl
def o14 := O 2
def B14 (P : PT) : Y k4 := fun x0 H =>
  B13 P x0 H
theorem q14 P : Q o14 (E k4 (B13 P)) k4 (B14 P) := fun _ _ _ => by kernel_rfl
def code : Code := (.seq (R 0 o14) (.seq (R 1 o13) (.seq (.seq (R 2 o12) (.block 0 (.loop (.seq (.seq (R 3 o11) (.cond (.tmp 11) .skip (.exit 0))) (.seq (.block 1 (.seq (.region 5 ⟨o10⟩ true) (.seq (R 6 o9) (.seq (.block 2 (.loop (.seq (.seq (.region 7 ⟨o8⟩ true) (.cond (.tmp 53) .skip (.exit 2))) (.block 3 (.seq (R 8 o7) (R 9 o6)))))) (R 10 o4))))) (R 4 o3)))))) (.seq (R 11 o1) .ret))))
theorem body : Tryz.f117.body = some code := by kernel_rfl
theorem main (P : PT) : ∀ env H, (En 69 k4 (B14 P)) env H → AW Tryz.prog T0 code env H (M (ret P)) :=
  (r_seq (b (q14 P)) (r_seq (b (q13 P)) (r_seq (r_seq (b (q12 P)) (r_block (rL (l2 P) (fun N2 => (r_seq (r_seq (b (q11 P N2)) (r_cond rfl r_skip (r_exit (fun _ _ h => h)))) (r_seq (r_block (r_seq (rD T0_ok mixed [(0, false), (1, false), (2, false), (3, false), (4, false), (5, false), (6, false), (7, false), (8, false), (9, false), (10, false), (11, false), (12, false), (13, false), (14, false), (15, false), (16, false), (17, false), (18, false), (19, false), (20, false), (21, false), (22, false), (23, false), (24, false), (25, false), (26, false), (27, false)] (by kernel_rfl) (q10 P N2)) (r_seq (b (q9 P N2)) (r_seq (r_block (rL (l5 P N2) (fun N5 => (r_seq (r_seq (rD T0_ok mixed [(0, false), (1, false), (2, false), (3, false), (4, false), (5, false), (6, false), (7, false), (8, false), (9, false), (10, false)] (by kernel_rfl) (q8 P N2 N5)) (r_cond rfl r_skip (r_exit (fun _ _ h => h)))) (r_block (r_seq (b (q7 P N2 N5)) (b (q6 P N2 N5)))))))) (b (q4 P N2)))))) (b (q3 P N2)))))))) (r_seq (b (q1 P)) r_ret))))
theorem ac (P : PT) (x0 : Value) (H : AHeap) (h : B14 P x0 H) : AC Tryz.prog T0 117 [x0] H P :=
  r_fn T0_ok (c := code) (n := 69) Tryz.func117 body (by kernel_rfl) (main P) (En_mk (x0, ()) (by kernel_rfl) ⟨by kernel_rfl, trivial⟩ h)

end F117
namespace F118
abbrev E := En 10
abbrev Q := QB Tryz.prog T0 10
def O (k : Nat) := ob Tryz.f118 (pth k)
def ret (P : PT) : EP := retE T0 10 Tryz.f118 P
abbrev k0 : Sk := [(0,J)]
def o1 := O 6
def B1 (P : PT) : Y k0 := fun x0 H =>
  AC Tryz.prog T0 114 [(Value.int .i64 x0), (Value.int .i64 2), (Value.int .i64 20)] H (fun v1 H2 => asB v1 (fun v3 => pif v3 (P (Value.bool ((Int.tmod x0 2 : Int) == 0)) H2) (P (Value.bool false) H2)))
theorem q1 P : Q o1 (ret P) k0 (B1 P) := fun _ _ _ => by kernel_rfl
def o2 := O 2
def B2 (P : PT) : Y k0 := fun x0 H =>
  B1 P x0 H
theorem q2 P : Q o2 (E k0 (B1 P)) k0 (B2 P) := fun _ _ _ => by kernel_rfl
def code : Code := (.seq (R 0 o2) (.seq (R 1 o1) .ret))
theorem body : Tryz.f118.body = some code := by kernel_rfl
theorem main (P : PT) : ∀ env H, (En 10 k0 (B2 P)) env H → AW Tryz.prog T0 code env H (M (ret P)) :=
  (r_seq (b (q2 P)) (r_seq (b (q1 P)) r_ret))
theorem ac (P : PT) (x0 : Int) (H : AHeap) (h : B2 P x0 H) : AC Tryz.prog T0 118 [(Value.int .i64 x0)] H P :=
  r_fn T0_ok (c := code) (n := 10) Tryz.func118 body (by kernel_rfl) (main P) (En_mk (x0, ()) (by kernel_rfl) ⟨by kernel_rfl, trivial⟩ h)

end F118
namespace F119
abbrev E := En 23
abbrev Q := QB Tryz.prog T0 23
def O (k : Nat) := ob Tryz.f119 (pth k)
def ret (P : PT) : EP := retE T0 23 Tryz.f119 P
abbrev k0 : Sk := [(1,.v),(2,.x)]
def o1 := O 6
def B1 (P : PT) : Y k0 := fun x1 x2 H =>
  ldI .i64 H x2 0 (fun v1 => asP x1 (fun b2 o3 => ldI .i64 H b2 o3 (fun v4 => AC Tryz.prog T0 114 [(Value.int .i64 v1), (Value.int .i64 0), (Value.int .i64 (IntKind.i64.wrap (v4 - 1)))] H (fun v5 H6 => asB v5 (fun v7 => pif v7 (ldI .i64 H6 x2 1 (fun v8 => asP x1 (fun b9 o10 => ldI .i64 H6 b9 o10 (fun v11 => AC Tryz.prog T0 114 [(Value.int .i64 v8), (Value.int .i64 0), (Value.int .i64 (IntKind.i64.wrap (v11 - 1)))] H6 (fun v12 H13 => asB v12 (fun v14 => pif v14 (ldI .i64 H13 x2 0 (fun v15 => ldI .i64 H13 x2 1 (fun v16 => P (Value.bool ((v15 : Int) != v16)) H13))) (P (Value.bool false) H13))))))) (P (Value.bool false) H6))))))
theorem q1 P : Q o1 (ret P) k0 (B1 P) := fun _ _ _ _ => by kernel_rfl
abbrev k1 : Sk := [(0,.g [.i,.i]),(1,.v)]
def o2 := O 2
def B2 (P : PT) : Y k1 := fun x0a x0b x1 H =>
  newK H [(Value.int .i64 x0a), (Value.int .i64 x0b)] 28 (fun b1 H2 => B1 P x1 b1 H2)
theorem q2 P : Q o2 (E k0 (B1 P)) k1 (B2 P) := fun _ _ _ _ _ => by kernel_rfl
def code : Code := (.seq (R 0 o2) (.seq (R 1 o1) .ret))
theorem body : Tryz.f119.body = some code := by kernel_rfl
theorem main (P : PT) : ∀ env H, (En 23 k1 (B2 P)) env H → AW Tryz.prog T0 code env H (M (ret P)) :=
  (r_seq (b (q2 P)) (r_seq (b (q1 P)) r_ret))
theorem ac (P : PT) (x0a x0b : Int) (x1 : Value) (H : AHeap) (h : B2 P x0a x0b x1 H) : AC Tryz.prog T0 119 [(Value.agg ⟨[(Value.int .i64 x0a), (Value.int .i64 x0b)]⟩), x1] H P :=
  r_fn T0_ok (c := code) (n := 23) Tryz.func119 body (by kernel_rfl) (main P) (En_mk (x0a, x0b, x1, ()) (by kernel_rfl) ⟨by kernel_rfl, by kernel_rfl, trivial⟩ h)

end F119
namespace F120
abbrev E := En 9
abbrev Q := QB Tryz.prog T0 9
def O (k : Nat) := ob Tryz.f120 (pth k)
def ret (P : PT) : EP := retE T0 9 Tryz.f120 P
abbrev k0 : Sk := [(0,.v),(1,.v)]
def o1 := O 6
def B1 (P : PT) : Y k0 := fun x0 x1 H =>
  AC Tryz.prog T0 172 [x0, x1] H (fun v1 H2 => asI .i64 v1 (fun v3 => P (Value.bool (decide ((v3 : Int) ≥ 0))) H2))
theorem q1 P : Q o1 (ret P) k0 (B1 P) := fun _ _ _ _ => by kernel_rfl
def o2 := O 2
def B2 (P : PT) : Y k0 := fun x0 x1 H =>
  B1 P x0 x1 H
theorem q2 P : Q o2 (E k0 (B1 P)) k0 (B2 P) := fun _ _ _ _ => by kernel_rfl
def code : Code := (.seq (R 0 o2) (.seq (R 1 o1) .ret))
theorem body : Tryz.f120.body = some code := by kernel_rfl
theorem main (P : PT) : ∀ env H, (En 9 k0 (B2 P)) env H → AW Tryz.prog T0 code env H (M (ret P)) :=
  (r_seq (b (q2 P)) (r_seq (b (q1 P)) r_ret))
theorem ac (P : PT) (x0 x1 : Value) (H : AHeap) (h : B2 P x0 x1 H) : AC Tryz.prog T0 120 [x0, x1] H P :=
  r_fn T0_ok (c := code) (n := 9) Tryz.func120 body (by kernel_rfl) (main P) (En_mk (x0, x1, ()) (by kernel_rfl) ⟨by kernel_rfl, by kernel_rfl, trivial⟩ h)

end F120
namespace F121
abbrev E := En 8
abbrev Q := QB Tryz.prog T0 8
def O (k : Nat) := ob Tryz.f121 (pth k)
def ret (P : PT) : EP := retE T0 8 Tryz.f121 P
abbrev k0 : Sk := [(1,.v),(2,.x)]
def o1 := O 6
def B1 (P : PT) : Y k0 := fun x1 x2 H =>
  asP x1 (fun b1 o2 => ld1 H b1 o2 (fun v3 => ldI .i64 H x2 0 (fun v4 => ldI .i64 H x2 1 (fun v5 => callV Tryz.prog T0 v3 [(Value.agg ⟨[(Value.int .i64 v4), (Value.int .i64 v5)]⟩)] H (fun v6 H7 => asB v6 (fun v8 => P (Value.bool (!v8)) H7))))))
theorem q1 P : Q o1 (ret P) k0 (B1 P) := fun _ _ _ _ => by kernel_rfl
abbrev k1 : Sk := [(0,.g [.i,.i]),(1,.v)]
def o2 := O 2
def B2 (P : PT) : Y k1 := fun x0a x0b x1 H =>
  newK H [(Value.int .i64 x0a), (Value.int .i64 x0b)] 28 (fun b1 H2 => B1 P x1 b1 H2)
theorem q2 P : Q o2 (E k0 (B1 P)) k1 (B2 P) := fun _ _ _ _ _ => by kernel_rfl
def code : Code := (.seq (R 0 o2) (.seq (R 1 o1) .ret))
theorem body : Tryz.f121.body = some code := by kernel_rfl
theorem main (P : PT) : ∀ env H, (En 8 k1 (B2 P)) env H → AW Tryz.prog T0 code env H (M (ret P)) :=
  (r_seq (b (q2 P)) (r_seq (b (q1 P)) r_ret))
theorem ac (P : PT) (x0a x0b : Int) (x1 : Value) (H : AHeap) (h : B2 P x0a x0b x1 H) : AC Tryz.prog T0 121 [(Value.agg ⟨[(Value.int .i64 x0a), (Value.int .i64 x0b)]⟩), x1] H P :=
  r_fn T0_ok (c := code) (n := 8) Tryz.func121 body (by kernel_rfl) (main P) (En_mk (x0a, x0b, x1, ()) (by kernel_rfl) ⟨by kernel_rfl, by kernel_rfl, trivial⟩ h)

end F121
namespace F122
abbrev E := En 36
abbrev Q := QB Tryz.prog T0 36
def O (k : Nat) := ob Tryz.f122 (pth k)
def ret (P : PT) : EP := retE T0 36 Tryz.f122 P
abbrev k0 : Sk := []
def o1 := O 30
def B1 (P : PT) : Y k0 := fun H =>
  P (Value.int .i64 0) H
theorem q1 P : Q o1 (ret P) k0 (B1 P) := fun _ _ => by kernel_rfl
def o2 := O 116
def B2 (P : PT) : Y k0 := fun H =>
  P (Value.int .i64 (-1)) H
theorem q2 P : Q o2 (ret P) k0 (B2 P) := fun _ _ => by kernel_rfl
abbrev k1 : Sk := [(0,.v),(1,.v)]
def o3 := O 28
def B3 (P : PT) : Y k1 := fun x0 x1 H =>
  lenK x0 (fun n1 => lenK x1 (fun n2 => pif (decide (((n1 : Int) : Int) < (n2 : Int))) (B2 P H) (B1 P H)))
theorem q3 P : Q o3 (cnd 35 (E k0 (B2 P)) (E k0 (B1 P))) k1 (B3 P) := fun _ _ _ _ => by kernel_rfl
abbrev k2 : Sk := [(0,.v),(1,.v),(9,.v),(10,J),(11,J)]
def o5 := O 423
def B5 (P : PT) (N4 : Y k2) : Y k2 := fun x0 x1 x9 x10 x11 H =>
  N4 x0 x1 x9 x10 (IntKind.i64.wrap (x11 + 1)) H
theorem q5 P N4 : Q o5 (E k2 N4) k2 (B5 P N4) := fun _ _ _ _ _ _ _ => by kernel_rfl
abbrev k3 : Sk := [(8,J)]
def o6 := O 108156
def B6 (P : PT) (N4 : Y k2) : Y k3 := fun x8 H =>
  P (Value.int .i64 x8) H
theorem q6 P N4 : Q o6 (ret P) k3 (B6 P N4) := fun _ _ _ => by kernel_rfl
abbrev k4 : Sk := [(0,.v),(1,.v),(8,J),(9,.v),(10,J),(11,J)]
def o7 := O 27038
def B7 (P : PT) (N4 : Y k2) : Y k4 := fun x0 x1 x8 x9 x10 x11 H =>
  pif ((x8 : Int) != 0) (B6 P N4 x8 H) (B5 P N4 x0 x1 x9 x10 x11 H)
theorem q7 P N4 : Q o7 (cnd 28 (E k3 (B6 P N4)) (E k2 (B5 P N4))) k4 (B7 P N4) := fun _ _ _ _ _ _ _ _ => by kernel_rfl
abbrev k5 : Sk := [(0,.v),(1,.v),(6,J),(7,J),(9,.v),(10,J),(11,J)]
def o8 := O 13518
def B8 (P : PT) (N4 : Y k2) : Y k5 := fun x0 x1 x6 x7 x9 x10 x11 H =>
  AC Tryz.prog T0 173 [(Value.int .i64 x6), (Value.int .i64 x7)] H (fun v1 H2 => asI .i64 v1 (fun v3 => B7 P N4 x0 x1 v3 x9 x10 x11 H2))
theorem q8 P N4 : Q o8 (E k4 (B7 P N4)) k5 (B8 P N4) := fun _ _ _ _ _ _ _ _ _ => by kernel_rfl
abbrev k6 : Sk := [(0,.v),(1,.v),(5,J),(6,J),(9,.v),(10,J),(11,J)]
def o9 := O 6758
def B9 (P : PT) (N4 : Y k2) : Y k6 := fun x0 x1 x5 x6 x9 x10 x11 H =>
  idxK x1 x5 1 (fun b1 o2 => ldI .i64 H b1 o2 (fun v3 => B8 P N4 x0 x1 x6 v3 x9 x10 x11 H))
theorem q9 P N4 : Q o9 (E k5 (B8 P N4)) k6 (B9 P N4) := fun _ _ _ _ _ _ _ _ _ => by kernel_rfl
def o10 := O 27028
def B10 (P : PT) (N4 : Y k2) : Y k0 := fun H =>
  P (Value.int .i64 1) H
theorem q10 P N4 : Q o10 (ret P) k0 (B10 P N4) := fun _ _ => by kernel_rfl
def o11 := O 6756
def B11 (P : PT) (N4 : Y k2) : Y k6 := fun x0 x1 x5 x6 x9 x10 x11 H =>
  lenK x1 (fun n1 => pif (decide ((x5 : Int) ≥ (n1 : Int))) (B10 P N4 H) (B9 P N4 x0 x1 x5 x6 x9 x10 x11 H))
theorem q11 P N4 : Q o11 (cnd 19 (E k0 (B10 P N4)) (E k6 (B9 P N4))) k6 (B11 P N4) := fun _ _ _ _ _ _ _ _ _ => by kernel_rfl
def o12 := O 1688
def B12 (P : PT) (N4 : Y k2) : Y k2 := fun x0 x1 x9 x10 x11 H =>
  idxK x9 x11 1 (fun b1 o2 => ldI .i64 H b1 o2 (fun v3 => B11 P N4 x0 x1 x11 v3 x9 x10 x11 H))
theorem q12 P N4 : Q o12 (E k6 (B11 P N4)) k2 (B12 P N4) := fun _ _ _ _ _ _ _ => by kernel_rfl
def o13 := O 104
def B13 (P : PT) (N4 : Y k2) : Y k2 := fun x0 x1 x9 x10 x11 H =>
  pif (decide ((x11 : Int) < x10)) (B12 P N4 x0 x1 x9 x10 x11 H) (B3 P x0 x1 H)
theorem q13 P N4 : Q o13 (cnd 12 (E k2 (B12 P N4)) (E k1 (B3 P))) k2 (B13 P N4) := fun _ _ _ _ _ _ _ => by kernel_rfl
def L4 (P : PT) : Y k2 := fun x0 x1 x9 x10 x11 H =>
  ∃ (I : Y k2) (μ : NTy k2 (AHeap → Nat)), I x0 x1 x9 x10 x11 H ∧ ∀ y0 y1 y9 y10 y11 G, I y0 y1 y9 y10 y11 G → B13 P (fun z0 z1 z9 z10 z11 G' => I z0 z1 z9 z10 z11 G' ∧ μ z0 z1 z9 z10 z11 G' < μ y0 y1 y9 y10 y11 G) y0 y1 y9 y10 y11 G
theorem l4 P : LQ k2 (L4 P) (B13 P) := fun ⟨_,_,_,_,_,_⟩ _ ⟨I, μ, h0, hI⟩ => ⟨apT _ I, apT _ μ, h0, fun ⟨_,_,_,_,_,_⟩ _ h => hI _ _ _ _ _ _  h⟩
def o14 := O 12
def B14 (P : PT) : Y k1 := fun x0 x1 H =>
  lenK x0 (fun n1 => L4 P x0 x1 x0 (n1 : Int) 0 H)
theorem q14 P : Q o14 (E k2 (L4 P)) k1 (B14 P) := fun _ _ _ _ => by kernel_rfl
def o15 := O 2
def B15 (P : PT) : Y k1 := fun x0 x1 H =>
  B14 P x0 x1 H
theorem q15 P : Q o15 (E k1 (B14 P)) k1 (B15 P) := fun _ _ _ _ => by kernel_rfl
def code : Code := (.seq (R 0 o15) (.seq (.seq (R 1 o14) (.block 0 (.loop (.seq (R 2 o13) (.seq (.cond (.tmp 12) .skip (.exit 0)) (.seq (.block 1 (.seq (R 3 o12) (.seq (.seq (R 4 o11) (.cond (.tmp 19) (.seq (R 5 o10) .ret) .skip)) (.seq (R 6 o9) (.seq (R 7 o8) (.seq (R 8 o7) (.cond (.tmp 28) (.seq (R 9 o6) .ret) .skip))))))) (R 10 o5))))))) (.seq (.seq (R 11 o3) (.cond (.tmp 35) (.seq (R 12 o2) .ret) .skip)) (.seq (R 13 o1) .ret))))
theorem body : Tryz.f122.body = some code := by kernel_rfl
theorem main (P : PT) : ∀ env H, (En 36 k1 (B15 P)) env H → AW Tryz.prog T0 code env H (M (ret P)) :=
  (r_seq (b (q15 P)) (r_seq (r_seq (b (q14 P)) (r_block (rL (l4 P) (fun N4 => (r_seq (b (q13 P N4)) (r_seq (r_cond rfl r_skip (r_exit (fun _ _ h => h))) (r_seq (r_block (r_seq (b (q12 P N4)) (r_seq (r_seq (b (q11 P N4)) (r_cond rfl (r_seq (b (q10 P N4)) r_ret) r_skip)) (r_seq (b (q9 P N4)) (r_seq (b (q8 P N4)) (r_seq (b (q7 P N4)) (r_cond rfl (r_seq (b (q6 P N4)) r_ret) r_skip))))))) (b (q5 P N4))))))))) (r_seq (r_seq (b (q3 P)) (r_cond rfl (r_seq (b (q2 P)) r_ret) r_skip)) (r_seq (b (q1 P)) r_ret))))
theorem ac (P : PT) (x0 x1 : Value) (H : AHeap) (h : B15 P x0 x1 H) : AC Tryz.prog T0 122 [x0, x1] H P :=
  r_fn T0_ok (c := code) (n := 36) Tryz.func122 body (by kernel_rfl) (main P) (En_mk (x0, x1, ()) (by kernel_rfl) ⟨by kernel_rfl, by kernel_rfl, trivial⟩ h)

end F122
namespace F123
abbrev E := En 9
abbrev Q := QB Tryz.prog T0 9
def O (k : Nat) := ob Tryz.f123 (pth k)
def ret (P : PT) : EP := retE T0 9 Tryz.f123 P
abbrev k0 : Sk := [(0,.v),(3,.x)]
def o1 := O 6
def B1 (P : PT) : Y k0 := fun x0 x3 H =>
  AC Tryz.prog T0 174 [x0, (Value.func (.func 175) ⟨[]⟩ ⟨[(Value.pointer (some ⟨x3, 0, none⟩))]⟩)] H (fun v1 H2 => asB v1 (fun v3 => P (Value.bool (!v3)) H2))
theorem q1 P : Q o1 (ret P) k0 (B1 P) := fun _ _ _ _ => by kernel_rfl
abbrev k1 : Sk := [(0,.v),(1,.v)]
def o2 := O 2
def B2 (P : PT) : Y k1 := fun x0 x1 H =>
  pif (Value.oneCell' x1) (newK H [x1] 128 (fun b1 H2 => B1 P x0 b1 H2)) False
theorem q2 P : Q o2 (E k0 (B1 P)) k1 (B2 P) := fun _ _ _ _ => by kernel_rfl
def code : Code := (.seq (R 0 o2) (.seq (R 1 o1) .ret))
theorem body : Tryz.f123.body = some code := by kernel_rfl
theorem main (P : PT) : ∀ env H, (En 9 k1 (B2 P)) env H → AW Tryz.prog T0 code env H (M (ret P)) :=
  (r_seq (b (q2 P)) (r_seq (b (q1 P)) r_ret))
theorem ac (P : PT) (x0 x1 : Value) (H : AHeap) (h : B2 P x0 x1 H) : AC Tryz.prog T0 123 [x0, x1] H P :=
  r_fn T0_ok (c := code) (n := 9) Tryz.func123 body (by kernel_rfl) (main P) (En_mk (x0, x1, ()) (by kernel_rfl) ⟨by kernel_rfl, by kernel_rfl, trivial⟩ h)

end F123
namespace F124
abbrev E := En 5
abbrev Q := QB Tryz.prog T0 5
def O (k : Nat) := ob Tryz.f124 (pth k)
def ret (P : PT) : EP := retE T0 5 Tryz.f124 P
abbrev k0 : Sk := [(0,J)]
def o1 := O 6
def B1 (P : PT) : Y k0 := fun x0 H =>
  P (Value.bool ((x0 : Int) == 3)) H
theorem q1 P : Q o1 (ret P) k0 (B1 P) := fun _ _ _ => by kernel_rfl
def o2 := O 2
def B2 (P : PT) : Y k0 := fun x0 H =>
  B1 P x0 H
theorem q2 P : Q o2 (E k0 (B1 P)) k0 (B2 P) := fun _ _ _ => by kernel_rfl
def code : Code := (.seq (R 0 o2) (.seq (R 1 o1) .ret))
theorem body : Tryz.f124.body = some code := by kernel_rfl
theorem main (P : PT) : ∀ env H, (En 5 k0 (B2 P)) env H → AW Tryz.prog T0 code env H (M (ret P)) :=
  (r_seq (b (q2 P)) (r_seq (b (q1 P)) r_ret))
theorem ac (P : PT) (x0 : Int) (H : AHeap) (h : B2 P x0 H) : AC Tryz.prog T0 124 [(Value.int .i64 x0)] H P :=
  r_fn T0_ok (c := code) (n := 5) Tryz.func124 body (by kernel_rfl) (main P) (En_mk (x0, ()) (by kernel_rfl) ⟨by kernel_rfl, trivial⟩ h)

end F124
namespace F129
abbrev E := En 61
abbrev Q := QB Tryz.prog T0 61
def O (k : Nat) := ob Tryz.f129 (pth k)
def ret (P : PT) : EP := retE T0 61 Tryz.f129 P
abbrev k0 : Sk := []
def o1 := O 30
def B1 (P : PT) : Y k0 := fun H =>
  P (Value.int .i64 0) H
theorem q1 P : Q o1 (ret P) k0 (B1 P) := fun _ _ => by kernel_rfl
abbrev k1 : Sk := [(0,J),(1,.v),(5,J)]
def o3 := O 467
def B3 (P : PT) (N2 : Y k1) : Y k1 := fun x0 x1 x5 H =>
  N2 x0 x1 (IntKind.i64.wrap (x5 + 1)) H
theorem q3 P N2 : Q o3 (E k1 N2) k1 (B3 P N2) := fun _ _ _ _ _ => by kernel_rfl
def o4 := O 7460
def B4 (P : PT) (N2 : Y k1) : Y k0 := fun H =>
  P (Value.int .i64 2) H
theorem q4 P N2 : Q o4 (ret P) k0 (B4 P N2) := fun _ _ => by kernel_rfl
def o5 := O 1864
def B5 (P : PT) (N2 : Y k1) : Y k1 := fun x0 x1 x5 H =>
  idxK x1 x5 2 (fun b1 o2 => ldI .i64 H b1 o2 (fun v3 => AC Tryz.prog T0 91 [(Value.int .i64 v3), (Value.int .i64 0), (Value.int .i64 (IntKind.i64.wrap (x0 - 1)))] H (fun v4 H5 => asB v4 (fun v6 => pif (!v6) (B4 P N2 H5) (idxK x1 x5 2 (fun b7 o8 => ldI .i64 H5 b7 (o8 + 1) (fun v9 => AC Tryz.prog T0 91 [(Value.int .i64 v9), (Value.int .i64 0), (Value.int .i64 (IntKind.i64.wrap (x0 - 1)))] H5 (fun v10 H11 => asB v10 (fun v12 => pif (!v12) (B4 P N2 H11) (idxK x1 x5 2 (fun b13 o14 => ldI .i64 H11 b13 o14 (fun v15 => idxK x1 x5 2 (fun b16 o17 => ldI .i64 H11 b16 (o17 + 1) (fun v18 => pif ((v15 : Int) == v18) (B4 P N2 H11) (B3 P N2 x0 x1 x5 H11)))))))))))))))
theorem q5 (P : PT) (N2 : Y k1) : QD Tryz.prog T0 61 o5 [(0, false), (1, false), (2, false), (3, false), (4, false), (5, false), (6, false), (7, false), (8, false), (9, false), (10, false), (11, false), (12, false), (13, false), (14, false), (15, false), (16, false), (17, false), (18, false), (19, false), (20, false), (21, false), (22, false), (23, false), (24, false), (25, false), (26, false), (27, false), (28, false), (29, false), (30, false), (31, false), (32, false)] (cnd 60 (En 61 k0 (B4 P N2)) (En 61 k1 (B3 P N2))) k1 (B5 P N2) := fun _ _ _ _ _  => by kernel_rfl
def o6 := O 464
def B6 (P : PT) (N2 : Y k1) : Y k1 := fun x0 x1 x5 H =>
  lenK x1 (fun n1 => pif (decide ((x5 : Int) < (n1 : Int))) (B5 P N2 x0 x1 x5 H) (B1 P H))
theorem q6 P N2 : Q o6 (cnd 25 (E k1 (B5 P N2)) (E k0 (B1 P))) k1 (B6 P N2) := fun _ _ _ _ _ => by kernel_rfl
def L2 (P : PT) : Y k1 := fun x0 x1 x5 H =>
  ∃ (I : Y k1) (μ : NTy k1 (AHeap → Nat)), I x0 x1 x5 H ∧ ∀ y0 y1 y5 G, I y0 y1 y5 G → B6 P (fun z0 z1 z5 G' => I z0 z1 z5 G' ∧ μ z0 z1 z5 G' < μ y0 y1 y5 G) y0 y1 y5 G
theorem l2 P : LQ k1 (L2 P) (B6 P) := fun ⟨_,_,_,_⟩ _ ⟨I, μ, h0, hI⟩ => ⟨apT _ I, apT _ μ, h0, fun ⟨_,_,_,_⟩ _ h => hI _ _ _ _  h⟩
abbrev k2 : Sk := [(0,J),(1,.v)]
def o7 := O 28
def B7 (P : PT) : Y k2 := fun x0 x1 H =>
  L2 P x0 x1 0 H
theorem q7 P : Q o7 (E k1 (L2 P)) k2 (B7 P) := fun _ _ _ _ => by kernel_rfl
def o8 := O 52
def B8 (P : PT) : Y k0 := fun H =>
  P (Value.int .i64 2) H
theorem q8 P : Q o8 (ret P) k0 (B8 P) := fun _ _ => by kernel_rfl
def o9 := O 12
def B9 (P : PT) : Y k2 := fun x0 x1 H =>
  AC Tryz.prog T0 91 [(Value.int .i64 x0), (Value.int .i64 2), (Value.int .i64 20)] H (fun v1 H2 => asB v1 (fun v3 => pif (!v3) (B8 P H2) (pif ((Int.tmod x0 2 : Int) != 0) (B8 P H2) (lenK x1 (fun n4 => pif (((n4 : Int) : Int) != (IntKind.i64.wrap (Int.tdiv (IntKind.i64.wrap (3 * x0)) 2))) (B8 P H2) (B7 P x0 x1 H2))))))
theorem q9 P : Q o9 (cnd 21 (E k0 (B8 P)) (E k2 (B7 P))) k2 (B9 P) := fun _ _ _ _ => by kernel_rfl
def o10 := O 2
def B10 (P : PT) : Y k2 := fun x0 x1 H =>
  B9 P x0 x1 H
theorem q10 P : Q o10 (E k2 (B9 P)) k2 (B10 P) := fun _ _ _ _ => by kernel_rfl
def code : Code := (.seq (R 0 o10) (.seq (.seq (R 1 o9) (.cond (.tmp 21) (.seq (R 2 o8) .ret) .skip)) (.seq (.seq (R 3 o7) (.block 0 (.loop (.seq (.seq (R 4 o6) (.cond (.tmp 25) .skip (.exit 0))) (.seq (.block 1 (.seq (.region 6 ⟨o5⟩ true) (.cond (.tmp 60) (.seq (R 7 o4) .ret) .skip))) (R 5 o3)))))) (.seq (R 8 o1) .ret))))
theorem body : Tryz.f129.body = some code := by kernel_rfl
theorem main (P : PT) : ∀ env H, (En 61 k2 (B10 P)) env H → AW Tryz.prog T0 code env H (M (ret P)) :=
  (r_seq (b (q10 P)) (r_seq (r_seq (b (q9 P)) (r_cond rfl (r_seq (b (q8 P)) r_ret) r_skip)) (r_seq (r_seq (b (q7 P)) (r_block (rL (l2 P) (fun N2 => (r_seq (r_seq (b (q6 P N2)) (r_cond rfl r_skip (r_exit (fun _ _ h => h)))) (r_seq (r_block (r_seq (rD T0_ok mixed [(0, false), (1, false), (2, false), (3, false), (4, false), (5, false), (6, false), (7, false), (8, false), (9, false), (10, false), (11, false), (12, false), (13, false), (14, false), (15, false), (16, false), (17, false), (18, false), (19, false), (20, false), (21, false), (22, false), (23, false), (24, false), (25, false), (26, false), (27, false), (28, false), (29, false), (30, false), (31, false), (32, false)] (by kernel_rfl) (q5 P N2)) (r_cond rfl (r_seq (b (q4 P N2)) r_ret) r_skip))) (b (q3 P N2)))))))) (r_seq (b (q1 P)) r_ret))))
theorem ac (P : PT) (x0 : Int) (x1 : Value) (H : AHeap) (h : B10 P x0 x1 H) : AC Tryz.prog T0 129 [(Value.int .i64 x0), x1] H P :=
  r_fn T0_ok (c := code) (n := 61) Tryz.func129 body (by kernel_rfl) (main P) (En_mk (x0, x1, ()) (by kernel_rfl) ⟨by kernel_rfl, by kernel_rfl, trivial⟩ h)

end F129
namespace F130
abbrev E := En 46
abbrev Q := QB Tryz.prog T0 46
def O (k : Nat) := ob Tryz.f130 (pth k)
def ret (P : PT) : EP := retE T0 46 Tryz.f130 P
abbrev k0 : Sk := []
def o1 := O 62
def B1 (P : PT) : Y k0 := fun H =>
  P (Value.bool true) H
theorem q1 P : Q o1 (ret P) k0 (B1 P) := fun _ _ => by kernel_rfl
abbrev k1 : Sk := [(0,J),(5,.v),(7,J)]
def o3 := O 979
def B3 (P : PT) (N2 : Y k1) : Y k1 := fun x0 x5 x7 H =>
  N2 x0 x5 (IntKind.i64.wrap (x7 + 1)) H
theorem q3 P N2 : Q o3 (E k1 N2) k1 (B3 P N2) := fun _ _ _ _ _ => by kernel_rfl
def o4 := O 15652
def B4 (P : PT) (N2 : Y k1) : Y k0 := fun H =>
  P (Value.bool false) H
theorem q4 P N2 : Q o4 (ret P) k0 (B4 P N2) := fun _ _ => by kernel_rfl
def o5 := O 3912
def B5 (P : PT) (N2 : Y k1) : Y k1 := fun x0 x5 x7 H =>
  idxK x5 x7 1 (fun b1 o2 => ldI .i64 H b1 o2 (fun v3 => pif ((v3 : Int) != 3) (B4 P N2 H) (B3 P N2 x0 x5 x7 H)))
theorem q5 P N2 : Q o5 (cnd 45 (E k0 (B4 P N2)) (E k1 (B3 P N2))) k1 (B5 P N2) := fun _ _ _ _ _ => by kernel_rfl
def o6 := O 976
def B6 (P : PT) (N2 : Y k1) : Y k1 := fun x0 x5 x7 H =>
  pif (decide ((x7 : Int) < x0)) (B5 P N2 x0 x5 x7 H) (B1 P H)
theorem q6 P N2 : Q o6 (cnd 38 (E k1 (B5 P N2)) (E k0 (B1 P))) k1 (B6 P N2) := fun _ _ _ _ _ => by kernel_rfl
def L2 (P : PT) : Y k1 := fun x0 x5 x7 H =>
  ∃ (I : Y k1) (μ : NTy k1 (AHeap → Nat)), I x0 x5 x7 H ∧ ∀ y0 y5 y7 G, I y0 y5 y7 G → B6 P (fun z0 z5 z7 G' => I z0 z5 z7 G' ∧ μ z0 z5 z7 G' < μ y0 y5 y7 G) y0 y5 y7 G
theorem l2 P : LQ k1 (L2 P) (B6 P) := fun ⟨_,_,_,_⟩ _ ⟨I, μ, h0, hI⟩ => ⟨apT _ I, apT _ μ, h0, fun ⟨_,_,_,_⟩ _ h => hI _ _ _ _  h⟩
abbrev k2 : Sk := [(0,J),(5,.v)]
def o7 := O 60
def B7 (P : PT) : Y k2 := fun x0 x5 H =>
  L2 P x0 x5 0 H
theorem q7 P : Q o7 (E k1 (L2 P)) k2 (B7 P) := fun _ _ _ _ => by kernel_rfl
abbrev k3 : Sk := [(0,J),(1,.v),(5,.v),(6,J)]
def o9 := O 467
def B9 (P : PT) (N8 : Y k3) : Y k3 := fun x0 x1 x5 x6 H =>
  N8 x0 x1 x5 (IntKind.i64.wrap (x6 + 1)) H
theorem q9 P N8 : Q o9 (E k3 N8) k3 (B9 P N8) := fun _ _ _ _ _ _ => by kernel_rfl
def o10 := O 1865
def B10 (P : PT) (N8 : Y k3) : Y k3 := fun x0 x1 x5 x6 H =>
  idxK x1 x6 2 (fun b1 o2 => ldI .i64 H b1 (o2 + 1) (fun v3 => idxK x5 v3 1 (fun b4 o5 => ldI .i64 H b4 o5 (fun v6 => idxK x5 v3 1 (fun b7 o8 => stK H b7 o8 [(Value.int .i64 (IntKind.i64.wrap (v6 + 1)))] (fun H9 => B9 P N8 x0 x1 x5 x6 H9))))))
theorem q10 P N8 : Q o10 (E k3 (B9 P N8)) k3 (B10 P N8) := fun _ _ _ _ _ _ => by kernel_rfl
def o11 := O 1864
def B11 (P : PT) (N8 : Y k3) : Y k3 := fun x0 x1 x5 x6 H =>
  idxK x1 x6 2 (fun b1 o2 => ldI .i64 H b1 o2 (fun v3 => idxK x5 v3 1 (fun b4 o5 => ldI .i64 H b4 o5 (fun v6 => idxK x5 v3 1 (fun b7 o8 => stK H b7 o8 [(Value.int .i64 (IntKind.i64.wrap (v6 + 1)))] (fun H9 => B10 P N8 x0 x1 x5 x6 H9))))))
theorem q11 P N8 : Q o11 (E k3 (B10 P N8)) k3 (B11 P N8) := fun _ _ _ _ _ _ => by kernel_rfl
def o12 := O 464
def B12 (P : PT) (N8 : Y k3) : Y k3 := fun x0 x1 x5 x6 H =>
  lenK x1 (fun n1 => pif (decide ((x6 : Int) < (n1 : Int))) (B11 P N8 x0 x1 x5 x6 H) (B7 P x0 x5 H))
theorem q12 P N8 : Q o12 (cnd 13 (E k3 (B11 P N8)) (E k2 (B7 P))) k3 (B12 P N8) := fun _ _ _ _ _ _ => by kernel_rfl
def L8 (P : PT) : Y k3 := fun x0 x1 x5 x6 H =>
  ∃ (I : Y k3) (μ : NTy k3 (AHeap → Nat)), I x0 x1 x5 x6 H ∧ ∀ y0 y1 y5 y6 G, I y0 y1 y5 y6 G → B12 P (fun z0 z1 z5 z6 G' => I z0 z1 z5 z6 G' ∧ μ z0 z1 z5 z6 G' < μ y0 y1 y5 y6 G) y0 y1 y5 y6 G
theorem l8 P : LQ k3 (L8 P) (B12 P) := fun ⟨_,_,_,_,_⟩ _ ⟨I, μ, h0, hI⟩ => ⟨apT _ I, apT _ μ, h0, fun ⟨_,_,_,_,_⟩ _ h => hI _ _ _ _ _  h⟩
abbrev k4 : Sk := [(0,J),(1,.v),(5,.v)]
def o13 := O 28
def B13 (P : PT) : Y k4 := fun x0 x1 x5 H =>
  L8 P x0 x1 x5 0 H
theorem q13 P : Q o13 (E k3 (L8 P)) k4 (B13 P) := fun _ _ _ _ _ => by kernel_rfl
abbrev k5 : Sk := [(0,J),(1,.v)]
def o14 := O 6
def B14 (P : PT) : Y k5 := fun x0 x1 H =>
  mkR H 8 2 [(Value.int .i64 0)] x0 x0 (fun v2 H1 => B13 P x0 x1 v2 H1)
theorem q14 P : Q o14 (E k4 (B13 P)) k5 (B14 P) := fun _ _ _ _ => by kernel_rfl
def o15 := O 2
def B15 (P : PT) : Y k5 := fun x0 x1 H =>
  B14 P x0 x1 H
theorem q15 P : Q o15 (E k5 (B14 P)) k5 (B15 P) := fun _ _ _ _ => by kernel_rfl
def code : Code := (.seq (R 0 o15) (.seq (R 1 o14) (.seq (.seq (R 2 o13) (.block 0 (.loop (.seq (.seq (R 3 o12) (.cond (.tmp 13) .skip (.exit 0))) (.seq (.block 1 (.seq (R 5 o11) (R 6 o10))) (R 4 o9)))))) (.seq (.seq (R 7 o7) (.block 2 (.loop (.seq (.seq (R 8 o6) (.cond (.tmp 38) .skip (.exit 2))) (.seq (.block 3 (.seq (R 10 o5) (.cond (.tmp 45) (.seq (R 11 o4) .ret) .skip))) (R 9 o3)))))) (.seq (R 12 o1) .ret)))))
theorem body : Tryz.f130.body = some code := by kernel_rfl
theorem main (P : PT) : ∀ env H, (En 46 k5 (B15 P)) env H → AW Tryz.prog T0 code env H (M (ret P)) :=
  (r_seq (b (q15 P)) (r_seq (b (q14 P)) (r_seq (r_seq (b (q13 P)) (r_block (rL (l8 P) (fun N8 => (r_seq (r_seq (b (q12 P N8)) (r_cond rfl r_skip (r_exit (fun _ _ h => h)))) (r_seq (r_block (r_seq (b (q11 P N8)) (b (q10 P N8)))) (b (q9 P N8)))))))) (r_seq (r_seq (b (q7 P)) (r_block (rL (l2 P) (fun N2 => (r_seq (r_seq (b (q6 P N2)) (r_cond rfl r_skip (r_exit (fun _ _ h => h)))) (r_seq (r_block (r_seq (b (q5 P N2)) (r_cond rfl (r_seq (b (q4 P N2)) r_ret) r_skip))) (b (q3 P N2)))))))) (r_seq (b (q1 P)) r_ret)))))
theorem ac (P : PT) (x0 : Int) (x1 : Value) (H : AHeap) (h : B15 P x0 x1 H) : AC Tryz.prog T0 130 [(Value.int .i64 x0), x1] H P :=
  r_fn T0_ok (c := code) (n := 46) Tryz.func130 body (by kernel_rfl) (main P) (En_mk (x0, x1, ()) (by kernel_rfl) ⟨by kernel_rfl, by kernel_rfl, trivial⟩ h)

end F130
namespace F131
abbrev E := En 24
abbrev Q := QB Tryz.prog T0 24
def O (k : Nat) := ob Tryz.f131 (pth k)
def ret (P : PT) : EP := retE T0 24 Tryz.f131 P
abbrev k0 : Sk := [(2,.x),(3,.x)]
def o1 := O 6
def B1 (P : PT) : Y k0 := fun x2 x3 H =>
  ldI .i64 H x2 0 (fun v1 => ldI .i64 H x3 0 (fun v2 => pif (decide ((v1 : Int) < v2)) (P (Value.bool true) H) (ldI .i64 H x2 0 (fun v3 => ldI .i64 H x3 0 (fun v4 => pif ((v3 : Int) == v4) (ldI .i64 H x2 1 (fun v5 => ldI .i64 H x3 1 (fun v6 => P (Value.bool (decide ((v5 : Int) < v6))) H))) (P (Value.bool false) H))))))
theorem q1 P : Q o1 (ret P) k0 (B1 P) := fun _ _ _ _ => by kernel_rfl
abbrev k1 : Sk := [(0,.g [.i,.i]),(1,.g [.i,.i])]
def o2 := O 2
def B2 (P : PT) : Y k1 := fun x0a x0b x1a x1b H =>
  newK H [(Value.int .i64 x0a), (Value.int .i64 x0b)] 28 (fun b1 H2 => newK H2 [(Value.int .i64 x1a), (Value.int .i64 x1b)] 28 (fun b3 H4 => B1 P b1 b3 H4))
theorem q2 P : Q o2 (E k0 (B1 P)) k1 (B2 P) := fun _ _ _ _ _ _ => by kernel_rfl
def code : Code := (.seq (R 0 o2) (.seq (R 1 o1) .ret))
theorem body : Tryz.f131.body = some code := by kernel_rfl
theorem main (P : PT) : ∀ env H, (En 24 k1 (B2 P)) env H → AW Tryz.prog T0 code env H (M (ret P)) :=
  (r_seq (b (q2 P)) (r_seq (b (q1 P)) r_ret))
theorem ac (P : PT) (x0a x0b x1a x1b : Int) (H : AHeap) (h : B2 P x0a x0b x1a x1b H) : AC Tryz.prog T0 131 [(Value.agg ⟨[(Value.int .i64 x0a), (Value.int .i64 x0b)]⟩), (Value.agg ⟨[(Value.int .i64 x1a), (Value.int .i64 x1b)]⟩)] H P :=
  r_fn T0_ok (c := code) (n := 24) Tryz.func131 body (by kernel_rfl) (main P) (En_mk (x0a, x0b, x1a, x1b, ()) (by kernel_rfl) ⟨by kernel_rfl, by kernel_rfl, trivial⟩ h)

end F131
namespace F132
abbrev E := En 38
abbrev Q := QB Tryz.prog T0 38
def O (k : Nat) := ob Tryz.f132 (pth k)
def ret (P : PT) : EP := retE T0 38 Tryz.f132 P
abbrev k0 : Sk := [(5,.v)]
def o1 := O 30
def B1 (P : PT) : Y k0 := fun x5 H =>
  P x5 H
theorem q1 P : Q o1 (ret P) k0 (B1 P) := fun _ _ _ => by kernel_rfl
abbrev k1 : Sk := [(1,J),(2,.x),(5,.v),(6,J)]
def o3 := O 467
def B3 (P : PT) (N2 : Y k1) : Y k1 := fun x1 x2 x5 x6 H =>
  N2 x1 x2 x5 (IntKind.i64.wrap (x6 + 1)) H
theorem q3 P N2 : Q o3 (E k1 N2) k1 (B3 P N2) := fun _ _ _ _ _ _ => by kernel_rfl
def o4 := O 3730
def B4 (P : PT) (N2 : Y k1) : Y k1 := fun x1 x2 x5 x6 H =>
  newK H [(Value.int .i64 x6)] 2 (fun b1 H2 => apK T0 2 H2 x5 (Value.slice (some ⟨b1, 0, none⟩) 1 (1 + 1)) (fun v3 H4 => B3 P N2 x1 x2 v3 x6 H4))
theorem q4 P N2 : Q o4 (E k1 (B3 P N2)) k1 (B4 P N2) := fun _ _ _ _ _ _ => by kernel_rfl
def o5 := O 1864
def B5 (P : PT) (N2 : Y k1) : Y k1 := fun x1 x2 x5 x6 H =>
  ld1 H x2 1 (fun v1 => idxK v1 x6 2 (fun b2 o3 => ldI .i64 H b2 o3 (fun v4 => pif ((v4 : Int) == x1) (B4 P N2 x1 x2 x5 x6 H) (ld1 H x2 1 (fun v5 => idxK v5 x6 2 (fun b6 o7 => ldI .i64 H b6 (o7 + 1) (fun v8 => pif ((v8 : Int) == x1) (B4 P N2 x1 x2 x5 x6 H) (B3 P N2 x1 x2 x5 x6 H))))))))
theorem q5 P N2 : Q o5 (cnd 32 (E k1 (B4 P N2)) (E k1 (B3 P N2))) k1 (B5 P N2) := fun _ _ _ _ _ _ => by kernel_rfl
def o6 := O 464
def B6 (P : PT) (N2 : Y k1) : Y k1 := fun x1 x2 x5 x6 H =>
  ld1 H x2 1 (fun v1 => lenK v1 (fun n2 => pif (decide ((x6 : Int) < (n2 : Int))) (B5 P N2 x1 x2 x5 x6 H) (B1 P x5 H)))
theorem q6 P N2 : Q o6 (cnd 12 (E k1 (B5 P N2)) (E k0 (B1 P))) k1 (B6 P N2) := fun _ _ _ _ _ _ => by kernel_rfl
def L2 (P : PT) : Y k1 := fun x1 x2 x5 x6 H =>
  ∃ (I : Y k1) (μ : NTy k1 (AHeap → Nat)), I x1 x2 x5 x6 H ∧ ∀ y1 y2 y5 y6 G, I y1 y2 y5 y6 G → B6 P (fun z1 z2 z5 z6 G' => I z1 z2 z5 z6 G' ∧ μ z1 z2 z5 z6 G' < μ y1 y2 y5 y6 G) y1 y2 y5 y6 G
theorem l2 P : LQ k1 (L2 P) (B6 P) := fun ⟨_,_,_,_,_⟩ _ ⟨I, μ, h0, hI⟩ => ⟨apT _ I, apT _ μ, h0, fun ⟨_,_,_,_,_⟩ _ h => hI _ _ _ _ _  h⟩
abbrev k2 : Sk := [(1,J),(2,.x),(5,.v)]
def o7 := O 28
def B7 (P : PT) : Y k2 := fun x1 x2 x5 H =>
  L2 P x1 x2 x5 0 H
theorem q7 P : Q o7 (E k1 (L2 P)) k2 (B7 P) := fun _ _ _ _ _ => by kernel_rfl
abbrev k3 : Sk := [(1,J),(2,.x)]
def o8 := O 6
def B8 (P : PT) : Y k3 := fun x1 x2 H =>
  newK H [] 2 (fun b1 H2 => B7 P x1 x2 (Value.slice (some ⟨b1, 0, none⟩) 0 (0 + 1)) H2)
theorem q8 P : Q o8 (E k2 (B7 P)) k3 (B8 P) := fun _ _ _ _ => by kernel_rfl
abbrev k4 : Sk := [(0,.g [.i,.v]),(1,J)]
def o9 := O 2
def B9 (P : PT) : Y k4 := fun x0a x0b x1 H =>
  newK H [(Value.int .i64 x0a), x0b] 31 (fun b1 H2 => B8 P x1 b1 H2)
theorem q9 P : Q o9 (E k3 (B8 P)) k4 (B9 P) := fun _ _ _ _ _ => by kernel_rfl
def code : Code := (.seq (R 0 o9) (.seq (R 1 o8) (.seq (.seq (R 2 o7) (.block 0 (.loop (.seq (.seq (R 3 o6) (.cond (.tmp 12) .skip (.exit 0))) (.seq (.block 1 (.seq (R 5 o5) (.cond (.tmp 32) (R 6 o4) .skip))) (R 4 o3)))))) (.seq (R 7 o1) .ret))))
theorem body : Tryz.f132.body = some code := by kernel_rfl
theorem main (P : PT) : ∀ env H, (En 38 k4 (B9 P)) env H → AW Tryz.prog T0 code env H (M (ret P)) :=
  (r_seq (b (q9 P)) (r_seq (b (q8 P)) (r_seq (r_seq (b (q7 P)) (r_block (rL (l2 P) (fun N2 => (r_seq (r_seq (b (q6 P N2)) (r_cond rfl r_skip (r_exit (fun _ _ h => h)))) (r_seq (r_block (r_seq (b (q5 P N2)) (r_cond rfl (b (q4 P N2)) r_skip))) (b (q3 P N2)))))))) (r_seq (b (q1 P)) r_ret))))
theorem ac (P : PT) (x0a : Int) (x0b : Value) (x1 : Int) (H : AHeap) (h : B9 P x0a x0b x1 H) : AC Tryz.prog T0 132 [(Value.agg ⟨[(Value.int .i64 x0a), x0b]⟩), (Value.int .i64 x1)] H P :=
  r_fn T0_ok (c := code) (n := 38) Tryz.func132 body (by kernel_rfl) (main P) (En_mk (x0a, x0b, x1, ()) (by kernel_rfl) ⟨by kernel_rfl, by kernel_rfl, trivial⟩ h)

end F132
namespace F139
abbrev E := En 35
abbrev Q := QB Tryz.prog T0 35
def O (k : Nat) := ob Tryz.f139 (pth k)
def ret (P : PT) : EP := retE T0 35 Tryz.f139 P
abbrev k0 : Sk := [(0,.i .u64)]
def o1 := O 510
def B1 (P : PT) : Y k0 := fun x0 H =>
  P (Value.int .i64 (IntKind.i64.wrap (BitVec.ofInt 64 (IntKind.i64.wrap x0) &&& BitVec.ofInt 64 127).toNat)) H
theorem q1 P : Q o1 (ret P) k0 (B1 P) := fun _ _ _ => by kernel_rfl
def o2 := O 254
def B2 (P : PT) : Y k0 := fun x0 H =>
  ((0 : Int) ≤ 32) ∧ (B1 P (IntKind.u64.wrap (x0 + (Int.fdiv x0 (2 ^ (min (Int.toNat 32) 64))))) H)
theorem q2 P : Q o2 (E k0 (B1 P)) k0 (B2 P) := fun _ _ _ => by kernel_rfl
def o3 := O 126
def B3 (P : PT) : Y k0 := fun x0 H =>
  ((0 : Int) ≤ 16) ∧ (B2 P (IntKind.u64.wrap (x0 + (Int.fdiv x0 (2 ^ (min (Int.toNat 16) 64))))) H)
theorem q3 P : Q o3 (E k0 (B2 P)) k0 (B3 P) := fun _ _ _ => by kernel_rfl
def o4 := O 62
def B4 (P : PT) : Y k0 := fun x0 H =>
  ((0 : Int) ≤ 8) ∧ (B3 P (IntKind.u64.wrap (x0 + (Int.fdiv x0 (2 ^ (min (Int.toNat 8) 64))))) H)
theorem q4 P : Q o4 (E k0 (B3 P)) k0 (B4 P) := fun _ _ _ => by kernel_rfl
def o5 := O 30
def B5 (P : PT) : Y k0 := fun x0 H =>
  ((0 : Int) ≤ 4) ∧ (B4 P (IntKind.u64.wrap (BitVec.ofInt 64 (IntKind.u64.wrap ((Int.fdiv x0 (2 ^ (min (Int.toNat 4) 64))) + x0)) &&& BitVec.ofInt 64 1085102592571150095).toNat) H)
theorem q5 P : Q o5 (E k0 (B4 P)) k0 (B5 P) := fun _ _ _ => by kernel_rfl
def o6 := O 14
def B6 (P : PT) : Y k0 := fun x0 H =>
  ((0 : Int) ≤ 2) ∧ (B5 P (IntKind.u64.wrap ((IntKind.u64.wrap (BitVec.ofInt 64 (Int.fdiv x0 (2 ^ (min (Int.toNat 2) 64))) &&& BitVec.ofInt 64 3689348814741910323).toNat) + (IntKind.u64.wrap (BitVec.ofInt 64 x0 &&& BitVec.ofInt 64 3689348814741910323).toNat))) H)
theorem q6 P : Q o6 (E k0 (B5 P)) k0 (B6 P) := fun _ _ _ => by kernel_rfl
def o7 := O 6
def B7 (P : PT) : Y k0 := fun x0 H =>
  ((0 : Int) ≤ 1) ∧ (B6 P (IntKind.u64.wrap ((IntKind.u64.wrap (BitVec.ofInt 64 (Int.fdiv x0 (2 ^ (min (Int.toNat 1) 64))) &&& BitVec.ofInt 64 6148914691236517205).toNat) + (IntKind.u64.wrap (BitVec.ofInt 64 x0 &&& BitVec.ofInt 64 6148914691236517205).toNat))) H)
theorem q7 P : Q o7 (E k0 (B6 P)) k0 (B7 P) := fun _ _ _ => by kernel_rfl
def o8 := O 2
def B8 (P : PT) : Y k0 := fun x0 H =>
  B7 P x0 H
theorem q8 P : Q o8 (E k0 (B7 P)) k0 (B8 P) := fun _ _ _ => by kernel_rfl
def code : Code := (.seq (R 0 o8) (.seq (R 1 o7) (.seq (R 2 o6) (.seq (R 3 o5) (.seq (R 4 o4) (.seq (R 5 o3) (.seq (R 6 o2) (.seq (R 7 o1) .ret))))))))
theorem body : Tryz.f139.body = some code := by kernel_rfl
theorem main (P : PT) : ∀ env H, (En 35 k0 (B8 P)) env H → AW Tryz.prog T0 code env H (M (ret P)) :=
  (r_seq (b (q8 P)) (r_seq (b (q7 P)) (r_seq (b (q6 P)) (r_seq (b (q5 P)) (r_seq (b (q4 P)) (r_seq (b (q3 P)) (r_seq (b (q2 P)) (r_seq (b (q1 P)) r_ret))))))))
theorem ac (P : PT) (x0 : Int) (H : AHeap) (h : B8 P x0 H) : AC Tryz.prog T0 139 [(Value.int .u64 x0)] H P :=
  r_fn T0_ok (c := code) (n := 35) Tryz.func139 body (by kernel_rfl) (main P) (En_mk (x0, ()) (by kernel_rfl) ⟨by kernel_rfl, trivial⟩ h)

end F139
namespace F140
abbrev E := En 12
abbrev Q := QB Tryz.prog T0 12
def O (k : Nat) := ob Tryz.f140 (pth k)
def ret (P : PT) : EP := retE T0 12 Tryz.f140 P
abbrev k0 : Sk := []
def o1 := O 14
def B1 (P : PT) : Y k0 := fun H =>
  P (Value.bool false) H
theorem q1 P : Q o1 (ret P) k0 (B1 P) := fun _ _ => by kernel_rfl
abbrev k1 : Sk := [(2,.v)]
def o2 := O 26
def B2 (P : PT) : Y k1 := fun x2 H =>
  asP x2 (fun b1 o2 => ldI .i64 H b1 o2 (fun v3 => asP x2 (fun b4 o5 => stK H b4 o5 [(Value.int .i64 (IntKind.i64.wrap (v3 + 1)))] (fun H6 => B1 P H6))))
theorem q2 P : Q o2 (E k0 (B1 P)) k1 (B2 P) := fun _ _ _ => by kernel_rfl
abbrev k2 : Sk := [(0,.i .u64),(1,.v),(2,.v)]
def o3 := O 12
def B3 (P : PT) : Y k2 := fun x0 x1 x2 H =>
  asP x1 (fun b1 o2 => ldI .u64 H b1 o2 (fun v3 => asP x1 (fun b4 o5 => ldI .u64 H b4 o5 (fun v6 => pif ((IntKind.u64.wrap (BitVec.ofInt 64 x0 &&& BitVec.ofInt 64 v3).toNat : Int) == v6) (B2 P x2 H) (B1 P H)))))
theorem q3 P : Q o3 (cnd 9 (E k1 (B2 P)) (E k0 (B1 P))) k2 (B3 P) := fun _ _ _ _ _ => by kernel_rfl
def o4 := O 2
def B4 (P : PT) : Y k2 := fun x0 x1 x2 H =>
  B3 P x0 x1 x2 H
theorem q4 P : Q o4 (E k2 (B3 P)) k2 (B4 P) := fun _ _ _ _ _ => by kernel_rfl
def code : Code := (.seq (R 0 o4) (.seq (.seq (R 1 o3) (.cond (.tmp 9) (R 2 o2) .skip)) (.seq (R 3 o1) .ret)))
theorem body : Tryz.f140.body = some code := by kernel_rfl
theorem main (P : PT) : ∀ env H, (En 12 k2 (B4 P)) env H → AW Tryz.prog T0 code env H (M (ret P)) :=
  (r_seq (b (q4 P)) (r_seq (r_seq (b (q3 P)) (r_cond rfl (b (q2 P)) r_skip)) (r_seq (b (q1 P)) r_ret)))
theorem ac (P : PT) (x0 : Int) (x1 x2 : Value) (H : AHeap) (h : B4 P x0 x1 x2 H) : AC Tryz.prog T0 140 [(Value.int .u64 x0), x1, x2] H P :=
  r_fn T0_ok (c := code) (n := 12) Tryz.func140 body (by kernel_rfl) (main P) (En_mk (x0, x1, x2, ()) (by kernel_rfl) ⟨by kernel_rfl, by kernel_rfl, by kernel_rfl, trivial⟩ h)

end F140
namespace F142
abbrev E := En 32
abbrev Q := QB Tryz.prog T0 32
def O (k : Nat) := ob Tryz.f142 (pth k)
def ret (P : PT) : EP := retE T0 32 Tryz.f142 P
abbrev k0 : Sk := [(0,.v),(2,.x)]
def o1 := O 14
def B1 (P : PT) : Y k0 := fun x0 x2 H =>
  newK H [(Value.int .i64 2), (Value.int .i64 4), (Value.int .i64 4), (Value.int .i64 6), (Value.int .i64 6), (Value.int .i64 8), (Value.int .i64 8), (Value.int .i64 10)] 2 (fun b1 H2 => AC Tryz.prog T0 159 [x0, (Value.slice (some ⟨b1, 0, none⟩) 8 (8 + 1))] H2 (fun v3 H4 => asI .i64 v3 (fun v5 => AC Tryz.prog T0 185 [x0, (Value.int .i64 v5)] H4 (fun v6 H7 => agg2 v6 (fun v8 v9 => asI .i64 v8 (fun v10 => stK H7 x2 0 [(Value.int .i64 v10), v9] (fun H12 => ldI .i64 H12 x2 0 (fun v13 => ld1 H12 x2 1 (fun v14 => P (Value.agg ⟨[(Value.int .i64 v13), v14]⟩) H12)))))))))
theorem q1 P : Q o1 (ret P) k0 (B1 P) := fun _ _ _ _ => by kernel_rfl
abbrev k1 : Sk := [(0,.v),(2,.x),(4,.x)]
def o2 := O 214
def B2 (P : PT) : Y k1 := fun x0 x2 x4 H =>
  ldI .i64 H x4 0 (fun v1 => ld1 H x4 1 (fun v2 => ldI .i64 H x4 0 (fun v3 => AC Tryz.prog T0 184 [x0, (Value.int .i64 v3)] H (fun v4 H5 => (ldI .i64 H5 x4 0 (fun v7 => ld1 H5 x4 1 (fun v8 => ((Value.agg ⟨[(Value.int .i64 v7), v8]⟩) = (Value.agg ⟨[(Value.int .i64 v1), v2]⟩)) ∧ (H5 = H5)))) ∧ (AC Tryz.prog T0 183 [(Value.agg ⟨[(Value.int .i64 v1), v2]⟩), v4] H5 (fun v9 H10 => agg2 v9 (fun v11 v12 => asI .i64 v11 (fun v13 => stK H10 x2 0 [(Value.int .i64 v13), v12] (fun H15 => ldI .i64 H15 x2 0 (fun v16 => ld1 H15 x2 1 (fun v17 => P (Value.agg ⟨[(Value.int .i64 v16), v17]⟩) H15)))))))))))
theorem q2 (P : PT) : QT Tryz.prog T0 32 o2 (.op 0 [] (.op 1 [] (.op 2 [] (.op 3 [] (.op 4 [0] (.op 5 [] (.op 6 [] .done))))))) (ret P) k1 (B2 P) := fun _ _ _ _ _  => by kernel_rfl
abbrev k2 : Sk := [(0,.v),(2,.x),(3,.v)]
def o3 := O 106
def B3 (P : PT) : Y k2 := fun x0 x2 x3 H =>
  lenK x3 (fun n1 => AC Tryz.prog T0 88 [x0, (Value.int .i64 (n1 : Int))] H (fun v2 H3 => asI .i64 v2 (fun v4 => idxK x3 v4 1 (fun b5 o6 => ld1 H3 b5 o6 (fun v8 => asS v8 (fun v7 => AC Tryz.prog T0 182 [(Value.string v7)] H3 (fun v9 H10 => tup2 v9 (fun v11 v12 => agg2 v11 (fun v13 v14 => asI .i64 v13 (fun v15 => asB v12 (fun v17 => newK H10 [(Value.int .i64 0), (Value.slice none 0 0)] 31 (fun b18 H19 => stK H19 b18 0 [(Value.int .i64 v15), v14] (fun H20 => B2 P x0 x2 b18 H20)))))))))))))
theorem q3 P : Q o3 (E k1 (B2 P)) k2 (B3 P) := fun _ _ _ _ _ => by kernel_rfl
def o4 := O 52
def B4 (P : PT) : Y k0 := fun x0 x2 H =>
  newK H [(Value.string (⟨#[116, 104, 101, 116, 97]⟩)), (Value.string (⟨#[107, 52]⟩)), (Value.string (⟨#[107, 51, 51]⟩)), (Value.string (⟨#[112, 114, 105, 115, 109]⟩)), (Value.string (⟨#[99, 117, 98, 101]⟩)), (Value.string (⟨#[112, 101, 116, 101, 114, 115, 101, 110]⟩))] 9 (fun b1 H2 => B3 P x0 x2 (Value.slice (some ⟨b1, 0, none⟩) 6 (6 + 1)) H2)
theorem q4 P : Q o4 (E k2 (B3 P)) k0 (B4 P) := fun _ _ _ _ => by kernel_rfl
def o5 := O 12
def B5 (P : PT) : Y k0 := fun x0 x2 H =>
  AC Tryz.prog T0 88 [x0, (Value.int .i64 4)] H (fun v1 H2 => asI .i64 v1 (fun v3 => pif ((v3 : Int) == 0) (B4 P x0 x2 H2) (B1 P x0 x2 H2)))
theorem q5 P : Q o5 (cnd 8 (E k0 (B4 P)) (E k0 (B1 P))) k0 (B5 P) := fun _ _ _ _ => by kernel_rfl
abbrev k3 : Sk := [(0,.v)]
def o6 := O 2
def B6 (P : PT) : Y k3 := fun x0 H =>
  newK H [(Value.int .i64 0), (Value.slice none 0 0)] 31 (fun b1 H2 => B5 P x0 b1 H2)
theorem q6 P : Q o6 (E k0 (B5 P)) k3 (B6 P) := fun _ _ _ => by kernel_rfl
def code : Code := (.seq (R 0 o6) (.seq (.seq (R 1 o5) (.cond (.tmp 8) (.seq (R 2 o4) (.seq (R 3 o3) (.seq (.region 4 ⟨o2⟩ true) .ret))) .skip)) (.seq (R 5 o1) .ret)))
theorem body : Tryz.f142.body = some code := by kernel_rfl
theorem main (P : PT) : ∀ env H, (En 32 k3 (B6 P)) env H → AW Tryz.prog T0 code env H (M (ret P)) :=
  (r_seq (b (q6 P)) (r_seq (r_seq (b (q5 P)) (r_cond rfl (r_seq (b (q4 P)) (r_seq (b (q3 P)) (r_seq (rT T0_ok mixed (.op 0 [] (.op 1 [] (.op 2 [] (.op 3 [] (.op 4 [0] (.op 5 [] (.op 6 [] .done))))))) (by kernel_rfl) (q2 P)) r_ret))) r_skip)) (r_seq (b (q1 P)) r_ret)))
theorem ac (P : PT) (x0 : Value) (H : AHeap) (h : B6 P x0 H) : AC Tryz.prog T0 142 [x0] H P :=
  r_fn T0_ok (c := code) (n := 32) Tryz.func142 body (by kernel_rfl) (main P) (En_mk (x0, ()) (by kernel_rfl) ⟨by kernel_rfl, trivial⟩ h)

end F142
namespace F144
abbrev E := En 10
abbrev Q := QB Tryz.prog T0 10
def O (k : Nat) := ob Tryz.f144 (pth k)
def ret (P : PT) : EP := retE T0 10 Tryz.f144 P
abbrev k0 : Sk := [(0,.i .u64),(1,J)]
def o1 := O 6
def B1 (P : PT) : Y k0 := fun x0 x1 H =>
  ((0 : Int) ≤ x1) ∧ (P (Value.bool ((IntKind.u64.wrap (BitVec.ofInt 64 (Int.fdiv x0 (2 ^ (min (Int.toNat x1) 64))) &&& BitVec.ofInt 64 1).toNat : Int) == 1)) H)
theorem q1 P : Q o1 (ret P) k0 (B1 P) := fun _ _ _ _ => by kernel_rfl
def o2 := O 2
def B2 (P : PT) : Y k0 := fun x0 x1 H =>
  B1 P x0 x1 H
theorem q2 P : Q o2 (E k0 (B1 P)) k0 (B2 P) := fun _ _ _ _ => by kernel_rfl
def code : Code := (.seq (R 0 o2) (.seq (R 1 o1) .ret))
theorem body : Tryz.f144.body = some code := by kernel_rfl
theorem main (P : PT) : ∀ env H, (En 10 k0 (B2 P)) env H → AW Tryz.prog T0 code env H (M (ret P)) :=
  (r_seq (b (q2 P)) (r_seq (b (q1 P)) r_ret))
theorem ac (P : PT) (x0 x1 : Int) (H : AHeap) (h : B2 P x0 x1 H) : AC Tryz.prog T0 144 [(Value.int .u64 x0), (Value.int .i64 x1)] H P :=
  r_fn T0_ok (c := code) (n := 10) Tryz.func144 body (by kernel_rfl) (main P) (En_mk (x0, x1, ()) (by kernel_rfl) ⟨by kernel_rfl, by kernel_rfl, trivial⟩ h)

end F144
namespace F152
abbrev E := En 69
abbrev Q := QB Tryz.prog T0 69
def O (k : Nat) := ob Tryz.f152 (pth k)
def ret (P : PT) : EP := retE T0 69 Tryz.f152 P
abbrev k0 : Sk := [(3,.x),(4,.x),(5,.v)]
def o1 := O 30
def B1 (P : PT) : Y k0 := fun x3 x4 x5 H =>
  ldI .i64 H x3 0 (fun v1 => pif (Value.oneCell' x5) (stK H x4 0 [(Value.int .i64 v1), x5] (fun H2 => ldI .i64 H2 x4 0 (fun v3 => ld1 H2 x4 1 (fun v4 => P (Value.agg ⟨[(Value.int .i64 v3), v4]⟩) H2)))) False)
theorem q1 P : Q o1 (ret P) k0 (B1 P) := fun _ _ _ _ _ => by kernel_rfl
abbrev k1 : Sk := [(0,.v),(3,.x),(4,.x),(5,.v)]
def o2 := O 468
def B2 (P : PT) : Y k1 := fun x0 x3 x4 x5 H =>
  ldI .i64 H x3 0 (fun v1 => newK H [(Value.int .i64 0), (Value.int .i64 3), (Value.int .i64 22), (Value.int .i64 (-2)), (Value.int .i64 (IntKind.i64.wrap (v1 + 2)))] 2 (fun b2 H3 => AC Tryz.prog T0 159 [x0, (Value.slice (some ⟨b2, 0, none⟩) 5 (5 + 1))] H3 (fun v4 H5 => asI .i64 v4 (fun v6 => pif (Value.oneCell' x5) (stK H5 x4 0 [(Value.int .i64 v6), x5] (fun H7 => ldI .i64 H7 x4 0 (fun v8 => ld1 H7 x4 1 (fun v9 => P (Value.agg ⟨[(Value.int .i64 v8), v9]⟩) H7)))) False))))
theorem q2 P : Q o2 (ret P) k1 (B2 P) := fun _ _ _ _ _ _ => by kernel_rfl
def o3 := O 942
def B3 (P : PT) : Y k1 := fun x0 x3 x4 x5 H =>
  lenK x5 (fun n1 => ldI .i64 H x3 0 (fun v2 => ldI .i64 H x3 0 (fun v3 => (AC Tryz.prog T0 88 [x0, (Value.int .i64 (n1 : Int))] H (fun v4 H5 => asI .i64 v4 (fun v6 => (ldI .i64 H5 x3 0 (fun v7 => ((Value.int .i64 v7) = (Value.int .i64 v2)) ∧ (H5 = H5))) ∧ ((ldI .i64 H5 x3 0 (fun v8 => ((Value.int .i64 v8) = (Value.int .i64 v3)) ∧ (H5 = H5))) ∧ ((AC Tryz.prog T0 88 [x0, (Value.int .i64 v2)] H5 (fun v9 H10 => asI .i64 v9 (fun v11 => (ldI .i64 H10 x3 0 (fun v12 => ((Value.int .i64 v12) = (Value.int .i64 v3)) ∧ (H10 = H10))) ∧ (newK H10 [(Value.int .i64 (-1)), (Value.int .i64 v3), (Value.int .i64 0)] 2 (fun b13 H14 => AC Tryz.prog T0 159 [x0, (Value.slice (some ⟨b13, 0, none⟩) 3 (3 + 1))] H14 (fun v15 H16 => asI .i64 v15 (fun v17 => idxK x5 v6 2 (fun b18 o19 => stK H16 b18 o19 [(Value.int .i64 v11), (Value.int .i64 v17)] (fun H20 => B1 P x3 x4 x5 H20))))))))) ∧ (newK H5 [(Value.int .i64 (-1)), (Value.int .i64 v3), (Value.int .i64 0)] 2 (fun b21 H22 => AC Tryz.prog T0 88 [x0, (Value.int .i64 v2)] H22 (fun v23 H24 => asI .i64 v23 (fun v25 => (ldI .i64 H24 x3 0 (fun v26 => ((Value.int .i64 v26) = (Value.int .i64 v3)) ∧ (H24 = H24))) ∧ (AC Tryz.prog T0 159 [x0, (Value.slice (some ⟨b21, 0, none⟩) 3 (3 + 1))] H24 (fun v27 H28 => asI .i64 v27 (fun v29 => idxK x5 v6 2 (fun b30 o31 => stK H28 b30 o31 [(Value.int .i64 v25), (Value.int .i64 v29)] (fun H32 => B1 P x3 x4 x5 H32)))))))))))))) ∧ (newK H [(Value.int .i64 (-1)), (Value.int .i64 v3), (Value.int .i64 0)] 2 (fun b33 H34 => AC Tryz.prog T0 88 [x0, (Value.int .i64 (n1 : Int))] H34 (fun v35 H36 => asI .i64 v35 (fun v37 => (ldI .i64 H36 x3 0 (fun v38 => ((Value.int .i64 v38) = (Value.int .i64 v2)) ∧ (H36 = H36))) ∧ ((ldI .i64 H36 x3 0 (fun v39 => ((Value.int .i64 v39) = (Value.int .i64 v3)) ∧ (H36 = H36))) ∧ (AC Tryz.prog T0 88 [x0, (Value.int .i64 v2)] H36 (fun v40 H41 => asI .i64 v40 (fun v42 => (ldI .i64 H41 x3 0 (fun v43 => ((Value.int .i64 v43) = (Value.int .i64 v3)) ∧ (H41 = H41))) ∧ (AC Tryz.prog T0 159 [x0, (Value.slice (some ⟨b33, 0, none⟩) 3 (3 + 1))] H41 (fun v44 H45 => asI .i64 v44 (fun v46 => idxK x5 v37 2 (fun b47 o48 => stK H45 b47 o48 [(Value.int .i64 v42), (Value.int .i64 v46)] (fun H49 => B1 P x3 x4 x5 H49))))))))))))))))
theorem q3 (P : PT) : QT Tryz.prog T0 69 o3 (.op 0 [] (.op 1 [] (.op 2 [] (.op 3 [] (.op 5 [] (.op 6 [] (.op 7 [] (.op 9 [] (.op 10 [] (.op 11 [] (.alt (.op 4 [7, 11] (.alt (.op 8 [11] (.op 12 [] (.op 13 [] (.op 14 [] (.op 15 [] (.op 16 [] .done)))))) (.op 12 [] (.op 8 [11] (.op 13 [] (.op 14 [] (.op 15 [] (.op 16 [] .done)))))))) (.op 12 [] (.op 4 [7, 11] (.op 8 [11] (.op 13 [] (.op 14 [] (.op 15 [] (.op 16 [] .done)))))))))))))))))) (En 69 k0 (B1 P)) k1 (B3 P) := fun _ _ _ _ _ _  => by kernel_rfl
abbrev k2 : Sk := [(3,.x),(4,.x),(5,.v),(6,.x)]
def o4 := O 15099
def B4 (P : PT) : Y k2 := fun x3 x4 x5 x6 H =>
  lenK x5 (fun n1 => ldI .i64 H x6 0 (fun v2 => ldI .i64 H x6 1 (fun v3 => idxK x5 (IntKind.i64.wrap ((n1 : Int) - 1)) 2 (fun b4 o5 => stK H b4 o5 [(Value.int .i64 v2), (Value.int .i64 v3)] (fun H6 => B1 P x3 x4 x5 H6)))))
theorem q4 P : Q o4 (E k0 (B1 P)) k2 (B4 P) := fun _ _ _ _ _ _ => by kernel_rfl
def o5 := O 15098
def B5 (P : PT) : Y k2 := fun x3 x4 x5 x6 H =>
  lenK x5 (fun n1 => idxK x5 (IntKind.i64.wrap ((n1 : Int) - 1)) 2 (fun b2 o3 => ldI .i64 H b2 o3 (fun v4 => ldI .i64 H b2 (o3 + 1) (fun v5 => idxK x5 0 2 (fun b6 o7 => stK H b6 o7 [(Value.int .i64 v4), (Value.int .i64 v5)] (fun H8 => B4 P x3 x4 x5 x6 H8))))))
theorem q5 P : Q o5 (E k2 (B4 P)) k2 (B5 P) := fun _ _ _ _ _ _ => by kernel_rfl
def o6 := O 7548
def B6 (P : PT) : Y k0 := fun x3 x4 x5 H =>
  idxK x5 0 2 (fun b1 o2 => ldI .i64 H b1 o2 (fun v3 => ldI .i64 H b1 (o2 + 1) (fun v4 => newK H [(Value.int .i64 0), (Value.int .i64 0)] 28 (fun b5 H6 => stK H6 b5 0 [(Value.int .i64 v3), (Value.int .i64 v4)] (fun H7 => B5 P x3 x4 x5 b5 H7)))))
theorem q6 P : Q o6 (E k2 (B5 P)) k0 (B6 P) := fun _ _ _ _ _ => by kernel_rfl
def o7 := O 15102
def B7 (P : PT) : Y k0 := fun x3 x4 x5 H =>
  sliceK H 28 x5 (some (Value.int .i64 1)) none 2 (fun v1 => B1 P x3 x4 v1 H)
theorem q7 P : Q o7 (E k0 (B1 P)) k0 (B7 P) := fun _ _ _ _ _ => by kernel_rfl
abbrev k3 : Sk := [(3,.x),(4,.x)]
def o8 := O 30206
def B8 (P : PT) : Y k3 := fun x3 x4 H =>
  ldI .i64 H x3 0 (fun v1 => ld1 H x3 1 (fun v2 => stK H x4 0 [(Value.int .i64 v1), v2] (fun H3 => ldI .i64 H3 x4 0 (fun v4 => ld1 H3 x4 1 (fun v5 => P (Value.agg ⟨[(Value.int .i64 v4), v5]⟩) H3)))))
theorem q8 P : Q o8 (ret P) k3 (B8 P) := fun _ _ _ _ => by kernel_rfl
abbrev k4 : Sk := [(3,.x),(4,.x),(5,.v),(12,J)]
def o9 := O 7550
def B9 (P : PT) : Y k4 := fun x3 x4 x5 x12 H =>
  pif ((x12 : Int) == 3) (B7 P x3 x4 x5 H) (B8 P x3 x4 H)
theorem q9 P : Q o9 (cnd 61 (E k0 (B7 P)) (E k3 (B8 P))) k4 (B9 P) := fun _ _ _ _ _ _ => by kernel_rfl
def o10 := O 1886
def B10 (P : PT) : Y k4 := fun x3 x4 x5 x12 H =>
  pif ((x12 : Int) == 2) (B6 P x3 x4 x5 H) (B9 P x3 x4 x5 x12 H)
theorem q10 P : Q o10 (cnd 42 (E k0 (B6 P)) (E k4 (B9 P))) k4 (B10 P) := fun _ _ _ _ _ _ => by kernel_rfl
abbrev k5 : Sk := [(0,.v),(3,.x),(4,.x),(5,.v),(12,J)]
def o11 := O 470
def B11 (P : PT) : Y k5 := fun x0 x3 x4 x5 x12 H =>
  pif ((x12 : Int) == 1) (B3 P x0 x3 x4 x5 H) (B10 P x3 x4 x5 x12 H)
theorem q11 P : Q o11 (cnd 24 (E k1 (B3 P)) (E k4 (B10 P))) k5 (B11 P) := fun _ _ _ _ _ _ _ => by kernel_rfl
def o12 := O 116
def B12 (P : PT) : Y k5 := fun x0 x3 x4 x5 x12 H =>
  pif ((x12 : Int) == 0) (B2 P x0 x3 x4 x5 H) (B11 P x0 x3 x4 x5 x12 H)
theorem q12 P : Q o12 (cnd 14 (E k1 (B2 P)) (E k5 (B11 P))) k5 (B12 P) := fun _ _ _ _ _ _ _ => by kernel_rfl
def o13 := O 28
def B13 (P : PT) : Y k1 := fun x0 x3 x4 x5 H =>
  AC Tryz.prog T0 88 [x0, (Value.int .i64 50)] H (fun v1 H2 => asI .i64 v1 (fun v3 => B12 P x0 x3 x4 x5 v3 H2))
theorem q13 P : Q o13 (E k5 (B12 P)) k1 (B13 P) := fun _ _ _ _ _ _ => by kernel_rfl
abbrev k6 : Sk := [(0,.v),(3,.x),(4,.x)]
def o14 := O 6
def B14 (P : PT) : Y k6 := fun x0 x3 x4 H =>
  newK H [] 28 (fun b1 H2 => ld1 H2 x3 1 (fun v3 => apK T0 28 H2 (Value.slice (some ⟨b1, 0, none⟩) 0 (0 + 1)) v3 (fun v4 H5 => B13 P x0 x3 x4 v4 H5)))
theorem q14 P : Q o14 (E k1 (B13 P)) k6 (B14 P) := fun _ _ _ _ _ => by kernel_rfl
abbrev k7 : Sk := [(0,.v),(1,.g [.i,.v])]
def o15 := O 2
def B15 (P : PT) : Y k7 := fun x0 x1a x1b H =>
  newK H [(Value.int .i64 x1a), x1b] 31 (fun b1 H2 => newK H2 [(Value.int .i64 0), (Value.slice none 0 0)] 31 (fun b3 H4 => B14 P x0 b1 b3 H4))
theorem q15 P : Q o15 (E k6 (B14 P)) k7 (B15 P) := fun _ _ _ _ _ => by kernel_rfl
def code : Code := (.seq (R 0 o15) (.seq (R 1 o14) (.seq (.seq (R 2 o13) (.block 0 (.seq (R 4 o12) (.cond (.tmp 14) (.seq (R 5 o2) .ret) (.seq (R 6 o11) (.cond (.tmp 24) (.region 7 ⟨o3⟩ true) (.seq (R 8 o10) (.cond (.tmp 42) (.seq (R 9 o6) (.seq (R 10 o5) (R 11 o4))) (.seq (R 12 o9) (.cond (.tmp 61) (R 13 o7) (.seq (R 3 o8) .ret))))))))))) (.seq (R 14 o1) .ret))))
theorem body : Tryz.f152.body = some code := by kernel_rfl
theorem main (P : PT) : ∀ env H, (En 69 k7 (B15 P)) env H → AW Tryz.prog T0 code env H (M (ret P)) :=
  (r_seq (b (q15 P)) (r_seq (b (q14 P)) (r_seq (r_seq (b (q13 P)) (r_block (r_seq (b (q12 P)) (r_cond rfl (r_seq (b (q2 P)) r_ret) (r_seq (b (q11 P)) (r_cond rfl (rT T0_ok mixed (.op 0 [] (.op 1 [] (.op 2 [] (.op 3 [] (.op 5 [] (.op 6 [] (.op 7 [] (.op 9 [] (.op 10 [] (.op 11 [] (.alt (.op 4 [7, 11] (.alt (.op 8 [11] (.op 12 [] (.op 13 [] (.op 14 [] (.op 15 [] (.op 16 [] .done)))))) (.op 12 [] (.op 8 [11] (.op 13 [] (.op 14 [] (.op 15 [] (.op 16 [] .done)))))))) (.op 12 [] (.op 4 [7, 11] (.op 8 [11] (.op 13 [] (.op 14 [] (.op 15 [] (.op 16 [] .done)))))))))))))))))) (by kernel_rfl) (q3 P)) (r_seq (b (q10 P)) (r_cond rfl (r_seq (b (q6 P)) (r_seq (b (q5 P)) (b (q4 P)))) (r_seq (b (q9 P)) (r_cond rfl (b (q7 P)) (r_seq (b (q8 P)) r_ret))))))))))) (r_seq (b (q1 P)) r_ret))))
theorem ac (P : PT) (x0 : Value) (x1a : Int) (x1b : Value) (H : AHeap) (h : B15 P x0 x1a x1b H) : AC Tryz.prog T0 152 [x0, (Value.agg ⟨[(Value.int .i64 x1a), x1b]⟩)] H P :=
  r_fn T0_ok (c := code) (n := 69) Tryz.func152 body (by kernel_rfl) (main P) (En_mk (x0, x1a, x1b, ()) (by kernel_rfl) ⟨by kernel_rfl, by kernel_rfl, trivial⟩ h)

end F152
namespace F153
abbrev E := En 40
abbrev Q := QB Tryz.prog T0 40
def O (k : Nat) := ob Tryz.f153 (pth k)
def ret (P : PT) : EP := retE T0 40 Tryz.f153 P
abbrev k0 : Sk := [(0,.v),(2,.x)]
def o1 := O 30
def B1 (P : PT) : Y k0 := fun x0 x2 H =>
  newK H [(Value.int .i64 2), (Value.int .i64 4), (Value.int .i64 6), (Value.int .i64 8), (Value.int .i64 10), (Value.int .i64 12), (Value.int .i64 14), (Value.int .i64 20)] 2 (fun b1 H2 => AC Tryz.prog T0 159 [x0, (Value.slice (some ⟨b1, 0, none⟩) 8 (8 + 1))] H2 (fun v3 H4 => asI .i64 v3 (fun v5 => AC Tryz.prog T0 185 [x0, (Value.int .i64 v5)] H4 (fun v6 H7 => agg2 v6 (fun v8 v9 => asI .i64 v8 (fun v10 => stK H7 x2 0 [(Value.int .i64 v10), v9] (fun H12 => ldI .i64 H12 x2 0 (fun v13 => ld1 H12 x2 1 (fun v14 => P (Value.agg ⟨[(Value.int .i64 v13), v14]⟩) H12)))))))))
theorem q1 P : Q o1 (ret P) k0 (B1 P) := fun _ _ _ _ => by kernel_rfl
def o2 := O 116
def B2 (P : PT) : Y k0 := fun x0 x2 H =>
  AC Tryz.prog T0 142 [x0] H (fun v1 H2 => agg2 v1 (fun v3 v4 => asI .i64 v3 (fun v5 => AC Tryz.prog T0 142 [x0] H2 (fun v7 H8 => agg2 v7 (fun v9 v10 => asI .i64 v9 (fun v11 => AC Tryz.prog T0 189 [(Value.agg ⟨[(Value.int .i64 v5), v4]⟩), (Value.agg ⟨[(Value.int .i64 v11), v10]⟩)] H8 (fun v13 H14 => agg2 v13 (fun v15 v16 => asI .i64 v15 (fun v17 => stK H14 x2 0 [(Value.int .i64 v17), v16] (fun H19 => ldI .i64 H19 x2 0 (fun v20 => ld1 H19 x2 1 (fun v21 => P (Value.agg ⟨[(Value.int .i64 v20), v21]⟩) H19))))))))))))
theorem q2 P : Q o2 (ret P) k0 (B2 P) := fun _ _ _ _ => by kernel_rfl
def o3 := O 28
def B3 (P : PT) : Y k0 := fun x0 x2 H =>
  AC Tryz.prog T0 88 [x0, (Value.int .i64 8)] H (fun v1 H2 => asI .i64 v1 (fun v3 => pif ((v3 : Int) == 0) (B2 P x0 x2 H2) (B1 P x0 x2 H2)))
theorem q3 P : Q o3 (cnd 29 (E k0 (B2 P)) (E k0 (B1 P))) k0 (B3 P) := fun _ _ _ _ => by kernel_rfl
abbrev k1 : Sk := [(0,.v),(2,.x),(4,.x)]
def o4 := O 214
def B4 (P : PT) : Y k1 := fun x0 x2 x4 H =>
  ldI .i64 H x4 0 (fun v1 => ld1 H x4 1 (fun v2 => ldI .i64 H x4 0 (fun v3 => AC Tryz.prog T0 184 [x0, (Value.int .i64 v3)] H (fun v4 H5 => (ldI .i64 H5 x4 0 (fun v7 => ld1 H5 x4 1 (fun v8 => ((Value.agg ⟨[(Value.int .i64 v7), v8]⟩) = (Value.agg ⟨[(Value.int .i64 v1), v2]⟩)) ∧ (H5 = H5)))) ∧ (AC Tryz.prog T0 183 [(Value.agg ⟨[(Value.int .i64 v1), v2]⟩), v4] H5 (fun v9 H10 => agg2 v9 (fun v11 v12 => asI .i64 v11 (fun v13 => stK H10 x2 0 [(Value.int .i64 v13), v12] (fun H15 => ldI .i64 H15 x2 0 (fun v16 => ld1 H15 x2 1 (fun v17 => P (Value.agg ⟨[(Value.int .i64 v16), v17]⟩) H15)))))))))))
theorem q4 (P : PT) : QT Tryz.prog T0 40 o4 (.op 0 [] (.op 1 [] (.op 2 [] (.op 3 [] (.op 4 [0] (.op 5 [] (.op 6 [] .done))))))) (ret P) k1 (B4 P) := fun _ _ _ _ _  => by kernel_rfl
abbrev k2 : Sk := [(0,.v),(2,.x),(3,.v)]
def o5 := O 106
def B5 (P : PT) : Y k2 := fun x0 x2 x3 H =>
  lenK x3 (fun n1 => AC Tryz.prog T0 88 [x0, (Value.int .i64 (n1 : Int))] H (fun v2 H3 => asI .i64 v2 (fun v4 => idxK x3 v4 1 (fun b5 o6 => ld1 H3 b5 o6 (fun v8 => asS v8 (fun v7 => AC Tryz.prog T0 182 [(Value.string v7)] H3 (fun v9 H10 => tup2 v9 (fun v11 v12 => agg2 v11 (fun v13 v14 => asI .i64 v13 (fun v15 => asB v12 (fun v17 => newK H10 [(Value.int .i64 0), (Value.slice none 0 0)] 31 (fun b18 H19 => stK H19 b18 0 [(Value.int .i64 v15), v14] (fun H20 => B4 P x0 x2 b18 H20)))))))))))))
theorem q5 P : Q o5 (E k1 (B4 P)) k2 (B5 P) := fun _ _ _ _ _ => by kernel_rfl
def o6 := O 52
def B6 (P : PT) : Y k0 := fun x0 x2 H =>
  AC Tryz.prog T0 188 [] H (fun v1 H2 => B5 P x0 x2 v1 H2)
theorem q6 P : Q o6 (E k2 (B5 P)) k0 (B6 P) := fun _ _ _ _ => by kernel_rfl
def o7 := O 12
def B7 (P : PT) : Y k0 := fun x0 x2 H =>
  AC Tryz.prog T0 88 [x0, (Value.int .i64 3)] H (fun v1 H2 => asI .i64 v1 (fun v3 => pif ((v3 : Int) == 0) (B6 P x0 x2 H2) (B3 P x0 x2 H2)))
theorem q7 P : Q o7 (cnd 8 (E k0 (B6 P)) (E k0 (B3 P))) k0 (B7 P) := fun _ _ _ _ => by kernel_rfl
abbrev k3 : Sk := [(0,.v)]
def o8 := O 2
def B8 (P : PT) : Y k3 := fun x0 H =>
  newK H [(Value.int .i64 0), (Value.slice none 0 0)] 31 (fun b1 H2 => B7 P x0 b1 H2)
theorem q8 P : Q o8 (E k0 (B7 P)) k3 (B8 P) := fun _ _ _ => by kernel_rfl
def code : Code := (.seq (R 0 o8) (.seq (.seq (R 1 o7) (.cond (.tmp 8) (.seq (R 2 o6) (.seq (R 3 o5) (.seq (.region 4 ⟨o4⟩ true) .ret))) .skip)) (.seq (.seq (R 5 o3) (.cond (.tmp 29) (.seq (R 6 o2) .ret) .skip)) (.seq (R 7 o1) .ret))))
theorem body : Tryz.f153.body = some code := by kernel_rfl
theorem main (P : PT) : ∀ env H, (En 40 k3 (B8 P)) env H → AW Tryz.prog T0 code env H (M (ret P)) :=
  (r_seq (b (q8 P)) (r_seq (r_seq (b (q7 P)) (r_cond rfl (r_seq (b (q6 P)) (r_seq (b (q5 P)) (r_seq (rT T0_ok mixed (.op 0 [] (.op 1 [] (.op 2 [] (.op 3 [] (.op 4 [0] (.op 5 [] (.op 6 [] .done))))))) (by kernel_rfl) (q4 P)) r_ret))) r_skip)) (r_seq (r_seq (b (q3 P)) (r_cond rfl (r_seq (b (q2 P)) r_ret) r_skip)) (r_seq (b (q1 P)) r_ret))))
theorem ac (P : PT) (x0 : Value) (H : AHeap) (h : B8 P x0 H) : AC Tryz.prog T0 153 [x0] H P :=
  r_fn T0_ok (c := code) (n := 40) Tryz.func153 body (by kernel_rfl) (main P) (En_mk (x0, ()) (by kernel_rfl) ⟨by kernel_rfl, trivial⟩ h)

end F153
namespace F156
abbrev E := En 11
abbrev Q := QB Tryz.prog T0 11
def O (k : Nat) := ob Tryz.f156 (pth k)
def ret (P : PT) : EP := retE T0 11 Tryz.f156 P
abbrev k0 : Sk := [(1,.v)]
def o1 := O 14
def B1 (P : PT) : Y k0 := fun x1 H =>
  asP x1 (fun b1 o2 => ld1 H b1 o2 (fun v3 => lenK v3 (fun n4 => P (Value.bool (decide (((n4 : Int) : Int) > 60))) H)))
theorem q1 P : Q o1 (ret P) k0 (B1 P) := fun _ _ _ => by kernel_rfl
abbrev k1 : Sk := [(0,.i .u64),(1,.v)]
def o2 := O 6
def B2 (P : PT) : Y k1 := fun x0 x1 H =>
  asP x1 (fun b1 o2 => ld1 H b1 o2 (fun v3 => newK H [(Value.int .u64 x0)] 83 (fun b4 H5 => apK T0 83 H5 v3 (Value.slice (some ⟨b4, 0, none⟩) 1 (1 + 1)) (fun v6 H7 => pif (Value.oneCell' v6) (asP x1 (fun b8 o9 => stK H7 b8 o9 [v6] (fun H10 => B1 P x1 H10))) False))))
theorem q2 P : Q o2 (E k0 (B1 P)) k1 (B2 P) := fun _ _ _ _ => by kernel_rfl
def o3 := O 2
def B3 (P : PT) : Y k1 := fun x0 x1 H =>
  B2 P x0 x1 H
theorem q3 P : Q o3 (E k1 (B2 P)) k1 (B3 P) := fun _ _ _ _ => by kernel_rfl
def code : Code := (.seq (R 0 o3) (.seq (R 1 o2) (.seq (R 2 o1) .ret)))
theorem body : Tryz.f156.body = some code := by kernel_rfl
theorem main (P : PT) : ∀ env H, (En 11 k1 (B3 P)) env H → AW Tryz.prog T0 code env H (M (ret P)) :=
  (r_seq (b (q3 P)) (r_seq (b (q2 P)) (r_seq (b (q1 P)) r_ret)))
theorem ac (P : PT) (x0 : Int) (x1 : Value) (H : AHeap) (h : B3 P x0 x1 H) : AC Tryz.prog T0 156 [(Value.int .u64 x0), x1] H P :=
  r_fn T0_ok (c := code) (n := 11) Tryz.func156 body (by kernel_rfl) (main P) (En_mk (x0, x1, ()) (by kernel_rfl) ⟨by kernel_rfl, by kernel_rfl, trivial⟩ h)

end F156
namespace F157
abbrev E := En 77
abbrev Q := QB Tryz.prog T0 77
def O (k : Nat) := ob Tryz.f157 (pth k)
def ret (P : PT) : EP := retE T0 77 Tryz.f157 P
abbrev k0 : Sk := [(3,.v)]
def o1 := O 254
def B1 (P : PT) : Y k0 := fun x3 H =>
  P x3 H
theorem q1 P : Q o1 (ret P) k0 (B1 P) := fun _ _ _ => by kernel_rfl
abbrev k1 : Sk := [(1,.v),(2,J),(3,.v),(4,.x),(9,J),(10,.v),(11,J)]
def o3 := O 4051
def B3 (P : PT) (N2 : Y k1) : Y k1 := fun x1 x2 x3 x4 x9 x10 x11 H =>
  N2 x1 x2 x3 x4 x9 x10 (IntKind.i64.wrap (x11 + 1)) H
theorem q3 P N2 : Q o3 (E k1 N2) k1 (B3 P N2) := fun _ _ _ _ _ _ _ _ _ => by kernel_rfl
abbrev k2 : Sk := [(1,.v),(2,J),(3,.v),(4,.x),(9,J),(10,.v),(11,J),(12,J)]
def o4 := O 64806
def B4 (P : PT) (N2 : Y k1) : Y k2 := fun x1 x2 x3 x4 x9 x10 x11 x12 H =>
  ldI .i64 H x4 0 (fun v1 => ld1 H x4 1 (fun v2 => idxK x10 x11 1 (fun b3 o4 => ldI .i64 H b3 o4 (fun v5 => ((0 : Int) ≤ (IntKind.u64.wrap x9)) ∧ (((0 : Int) ≤ (IntKind.u64.wrap x12)) ∧ ((AC Tryz.prog T0 89 [x1] H (fun v6 H7 => (ldI .i64 H7 x4 0 (fun v9 => ld1 H7 x4 1 (fun v10 => ((Value.agg ⟨[(Value.int .i64 v9), v10]⟩) = (Value.agg ⟨[(Value.int .i64 v1), v2]⟩)) ∧ (H7 = H7)))) ∧ ((ldI .i64 H7 b3 o4 (fun v11 => ((Value.int .i64 v11) = (Value.int .i64 v5)) ∧ (H7 = H7))) ∧ (newK H7 [(Value.int .i64 v5)] 2 (fun b12 H13 => apK T0 2 H13 v6 (Value.slice (some ⟨b12, 0, none⟩) 1 (1 + 1)) (fun v14 H15 => (ldI .i64 H15 x4 0 (fun v16 => ld1 H15 x4 1 (fun v17 => ((Value.agg ⟨[(Value.int .i64 v16), v17]⟩) = (Value.agg ⟨[(Value.int .i64 v1), v2]⟩)) ∧ (H15 = H15)))) ∧ (AC Tryz.prog T0 157 [(Value.agg ⟨[(Value.int .i64 v1), v2]⟩), v14, (Value.int .i64 (IntKind.i64.wrap (BitVec.ofInt 64 (IntKind.i64.wrap (BitVec.ofInt 64 x2 ||| BitVec.ofInt 64 (IntKind.i64.wrap (1 * 2 ^ (min (Int.toNat (IntKind.u64.wrap x9)) 64)))).toNat) ||| BitVec.ofInt 64 (IntKind.i64.wrap (1 * 2 ^ (min (Int.toNat (IntKind.u64.wrap x12)) 64)))).toNat)), x3] H15 (fun v18 H19 => B3 P N2 x1 x2 v18 x4 x9 x10 x11 H19)))))))) ∧ (newK H [(Value.int .i64 v5)] 2 (fun b21 H22 => AC Tryz.prog T0 89 [x1] H22 (fun v23 H24 => (ldI .i64 H24 x4 0 (fun v26 => ld1 H24 x4 1 (fun v27 => ((Value.agg ⟨[(Value.int .i64 v26), v27]⟩) = (Value.agg ⟨[(Value.int .i64 v1), v2]⟩)) ∧ (H24 = H24)))) ∧ ((ldI .i64 H24 b3 o4 (fun v28 => ((Value.int .i64 v28) = (Value.int .i64 v5)) ∧ (H24 = H24))) ∧ (apK T0 2 H24 v23 (Value.slice (some ⟨b21, 0, none⟩) 1 (1 + 1)) (fun v29 H30 => (ldI .i64 H30 x4 0 (fun v31 => ld1 H30 x4 1 (fun v32 => ((Value.agg ⟨[(Value.int .i64 v31), v32]⟩) = (Value.agg ⟨[(Value.int .i64 v1), v2]⟩)) ∧ (H30 = H30)))) ∧ (AC Tryz.prog T0 157 [(Value.agg ⟨[(Value.int .i64 v1), v2]⟩), v29, (Value.int .i64 (IntKind.i64.wrap (BitVec.ofInt 64 (IntKind.i64.wrap (BitVec.ofInt 64 x2 ||| BitVec.ofInt 64 (IntKind.i64.wrap (1 * 2 ^ (min (Int.toNat (IntKind.u64.wrap x9)) 64)))).toNat) ||| BitVec.ofInt 64 (IntKind.i64.wrap (1 * 2 ^ (min (Int.toNat (IntKind.u64.wrap x12)) 64)))).toNat)), x3] H30 (fun v33 H34 => B3 P N2 x1 x2 v33 x4 x9 x10 x11 H34))))))))))))))
theorem q4 (P : PT) (N2 : Y k1) : QT Tryz.prog T0 77 o4 (.op 0 [] (.op 1 [] (.op 3 [] (.op 4 [] (.op 5 [] (.op 6 [] (.op 9 [] (.op 10 [] (.op 11 [] (.op 12 [] (.op 13 [] (.op 14 [] (.op 15 [] (.op 16 [] (.op 17 [] (.op 18 [] (.alt (.op 2 [0, 6] (.op 7 [] (.op 8 [0] (.op 19 [] (.op 20 [] .done))))) (.op 7 [] (.op 2 [0, 6] (.op 8 [0] (.op 19 [] (.op 20 [] .done)))))))))))))))))))))) (En 77 k1 (B3 P N2)) k2 (B4 P N2) := fun _ _ _ _ _ _ _ _ _ _  => by kernel_rfl
def o5 := O 32402
def B5 (P : PT) (N2 : Y k1) : Y k2 := fun x1 x2 x3 x4 x9 x10 x11 x12 H =>
  ((0 : Int) ≤ (IntKind.u64.wrap x12)) ∧ (pif ((IntKind.i64.wrap (BitVec.ofInt 64 (Int.fdiv x2 (2 ^ (min (Int.toNat (IntKind.u64.wrap x12)) 64))) &&& BitVec.ofInt 64 1).toNat : Int) == 0) (B4 P N2 x1 x2 x3 x4 x9 x10 x11 x12 H) (B3 P N2 x1 x2 x3 x4 x9 x10 x11 H))
theorem q5 P N2 : Q o5 (cnd 55 (E k2 (B4 P N2)) (E k1 (B3 P N2))) k2 (B5 P N2) := fun _ _ _ _ _ _ _ _ _ _ => by kernel_rfl
def o6 := O 16200
def B6 (P : PT) (N2 : Y k1) : Y k1 := fun x1 x2 x3 x4 x9 x10 x11 H =>
  ldI .i64 H x4 0 (fun v1 => ld1 H x4 1 (fun v2 => idxK x10 x11 1 (fun b3 o4 => ldI .i64 H b3 o4 (fun v5 => AC Tryz.prog T0 165 [(Value.agg ⟨[(Value.int .i64 v1), v2]⟩), (Value.int .i64 v5), (Value.int .i64 x9)] H (fun v6 H7 => asI .i64 v6 (fun v8 => B5 P N2 x1 x2 x3 x4 x9 x10 x11 v8 H7))))))
theorem q6 (P : PT) (N2 : Y k1) : QD Tryz.prog T0 77 o6 [(0, false), (1, false), (2, false), (3, false), (4, false), (5, false), (6, false), (7, false)] (En 77 k2 (B5 P N2)) k1 (B6 P N2) := fun _ _ _ _ _ _ _ _ _  => by kernel_rfl
def o7 := O 4048
def B7 (P : PT) (N2 : Y k1) : Y k1 := fun x1 x2 x3 x4 x9 x10 x11 H =>
  pif (decide ((x11 : Int) < 3)) (B6 P N2 x1 x2 x3 x4 x9 x10 x11 H) (B1 P x3 H)
theorem q7 P N2 : Q o7 (cnd 40 (E k1 (B6 P N2)) (E k0 (B1 P))) k1 (B7 P N2) := fun _ _ _ _ _ _ _ _ _ => by kernel_rfl
def L2 (P : PT) : Y k1 := fun x1 x2 x3 x4 x9 x10 x11 H =>
  ∃ (I : Y k1) (μ : NTy k1 (AHeap → Nat)), I x1 x2 x3 x4 x9 x10 x11 H ∧ ∀ y1 y2 y3 y4 y9 y10 y11 G, I y1 y2 y3 y4 y9 y10 y11 G → B7 P (fun z1 z2 z3 z4 z9 z10 z11 G' => I z1 z2 z3 z4 z9 z10 z11 G' ∧ μ z1 z2 z3 z4 z9 z10 z11 G' < μ y1 y2 y3 y4 y9 y10 y11 G) y1 y2 y3 y4 y9 y10 y11 G
theorem l2 P : LQ k1 (L2 P) (B7 P) := fun ⟨_,_,_,_,_,_,_,_⟩ _ ⟨I, μ, h0, hI⟩ => ⟨apT _ I, apT _ μ, h0, fun ⟨_,_,_,_,_,_,_,_⟩ _ h => hI _ _ _ _ _ _ _ _  h⟩
abbrev k3 : Sk := [(1,.v),(2,J),(3,.v),(4,.x),(9,J),(10,.v)]
def o8 := O 252
def B8 (P : PT) : Y k3 := fun x1 x2 x3 x4 x9 x10 H =>
  L2 P x1 x2 x3 x4 x9 x10 0 H
theorem q8 P : Q o8 (E k1 (L2 P)) k3 (B8 P) := fun _ _ _ _ _ _ _ _ => by kernel_rfl
abbrev k4 : Sk := [(1,.v),(2,J),(3,.v),(4,.x),(9,J)]
def o9 := O 62
def B9 (P : PT) : Y k4 := fun x1 x2 x3 x4 x9 H =>
  ldI .i64 H x4 0 (fun v1 => ld1 H x4 1 (fun v2 => AC Tryz.prog T0 132 [(Value.agg ⟨[(Value.int .i64 v1), v2]⟩), (Value.int .i64 x9)] H (fun v3 H4 => B8 P x1 x2 x3 x4 x9 v3 H4)))
theorem q9 P : Q o9 (E k3 (B8 P)) k4 (B9 P) := fun _ _ _ _ _ _ _ => by kernel_rfl
abbrev k5 : Sk := [(1,.v),(3,.v)]
def o10 := O 244
def B10 (P : PT) : Y k5 := fun x1 x3 H =>
  AC Tryz.prog T0 89 [x1] H (fun v1 H2 => pif (Value.oneCell' v1) (newK H2 [v1] 42 (fun b4 H5 => apK T0 42 H5 x3 (Value.slice (some ⟨b4, 0, none⟩) 1 (1 + 1)) (fun v6 H7 => P v6 H7))) False)
theorem q10 P : Q o10 (ret P) k5 (B10 P) := fun _ _ _ _ => by kernel_rfl
def o11 := O 60
def B11 (P : PT) : Y k4 := fun x1 x2 x3 x4 x9 H =>
  ldI .i64 H x4 0 (fun v1 => pif ((x9 : Int) == v1) (B10 P x1 x3 H) (B9 P x1 x2 x3 x4 x9 H))
theorem q11 P : Q o11 (cnd 30 (E k5 (B10 P)) (E k4 (B9 P))) k4 (B11 P) := fun _ _ _ _ _ _ _ => by kernel_rfl
def o13 := O 226
def B13 (P : PT) (N12 : Y k4) : Y k4 := fun x1 x2 x3 x4 x9 H =>
  N12 x1 x2 x3 x4 (IntKind.i64.wrap (x9 + 1)) H
theorem q13 P N12 : Q o13 (E k4 N12) k4 (B13 P N12) := fun _ _ _ _ _ _ _ => by kernel_rfl
def o14 := O 224
def B14 (P : PT) (N12 : Y k4) : Y k4 := fun x1 x2 x3 x4 x9 H =>
  ldI .i64 H x4 0 (fun v1 => pif (decide ((x9 : Int) < v1)) (((0 : Int) ≤ (IntKind.u64.wrap x9)) ∧ (pif ((IntKind.i64.wrap (BitVec.ofInt 64 (Int.fdiv x2 (2 ^ (min (Int.toNat (IntKind.u64.wrap x9)) 64))) &&& BitVec.ofInt 64 1).toNat : Int) == 1) (B13 P N12 x1 x2 x3 x4 x9 H) (B11 P x1 x2 x3 x4 x9 H))) (B11 P x1 x2 x3 x4 x9 H))
theorem q14 P N12 : Q o14 (cnd 24 (E k4 (B13 P N12)) (E k4 (B11 P))) k4 (B14 P N12) := fun _ _ _ _ _ _ _ => by kernel_rfl
def L12 (P : PT) : Y k4 := fun x1 x2 x3 x4 x9 H =>
  ∃ (I : Y k4) (μ : NTy k4 (AHeap → Nat)), I x1 x2 x3 x4 x9 H ∧ ∀ y1 y2 y3 y4 y9 G, I y1 y2 y3 y4 y9 G → B14 P (fun z1 z2 z3 z4 z9 G' => I z1 z2 z3 z4 z9 G' ∧ μ z1 z2 z3 z4 z9 G' < μ y1 y2 y3 y4 y9 G) y1 y2 y3 y4 y9 G
theorem l12 P : LQ k4 (L12 P) (B14 P) := fun ⟨_,_,_,_,_,_⟩ _ ⟨I, μ, h0, hI⟩ => ⟨apT _ I, apT _ μ, h0, fun ⟨_,_,_,_,_,_⟩ _ h => hI _ _ _ _ _ _  h⟩
abbrev k6 : Sk := [(1,.v),(2,J),(3,.v),(4,.x)]
def o15 := O 6
def B15 (P : PT) : Y k6 := fun x1 x2 x3 x4 H =>
  L12 P x1 x2 x3 x4 0 H
theorem q15 P : Q o15 (E k4 (L12 P)) k6 (B15 P) := fun _ _ _ _ _ _ => by kernel_rfl
abbrev k7 : Sk := [(0,.g [.i,.v]),(1,.v),(2,J),(3,.v)]
def o16 := O 2
def B16 (P : PT) : Y k7 := fun x0a x0b x1 x2 x3 H =>
  newK H [(Value.int .i64 x0a), x0b] 31 (fun b1 H2 => B15 P x1 x2 x3 b1 H2)
theorem q16 P : Q o16 (E k6 (B15 P)) k7 (B16 P) := fun _ _ _ _ _ _ _ => by kernel_rfl
def code : Code := (.seq (R 0 o16) (.seq (R 1 o15) (.seq (.block 0 (.loop (.seq (.seq (R 2 o14) (.cond (.tmp 24) .skip (.exit 0))) (.block 1 (R 3 o13))))) (.seq (.seq (R 4 o11) (.cond (.tmp 30) (.seq (R 5 o10) .ret) .skip)) (.seq (R 6 o9) (.seq (.seq (R 7 o8) (.block 2 (.loop (.seq (.seq (R 8 o7) (.cond (.tmp 40) .skip (.exit 2))) (.seq (.block 3 (.seq (.region 10 ⟨o6⟩ true) (.seq (R 11 o5) (.cond (.tmp 55) (.region 12 ⟨o4⟩ true) .skip)))) (R 9 o3)))))) (.seq (R 13 o1) .ret)))))))
theorem body : Tryz.f157.body = some code := by kernel_rfl
theorem main (P : PT) : ∀ env H, (En 77 k7 (B16 P)) env H → AW Tryz.prog T0 code env H (M (ret P)) :=
  (r_seq (b (q16 P)) (r_seq (b (q15 P)) (r_seq (r_block (rL (l12 P) (fun N12 => (r_seq (r_seq (b (q14 P N12)) (r_cond rfl r_skip (r_exit (fun _ _ h => h)))) (r_block (b (q13 P N12))))))) (r_seq (r_seq (b (q11 P)) (r_cond rfl (r_seq (b (q10 P)) r_ret) r_skip)) (r_seq (b (q9 P)) (r_seq (r_seq (b (q8 P)) (r_block (rL (l2 P) (fun N2 => (r_seq (r_seq (b (q7 P N2)) (r_cond rfl r_skip (r_exit (fun _ _ h => h)))) (r_seq (r_block (r_seq (rD T0_ok mixed [(0, false), (1, false), (2, false), (3, false), (4, false), (5, false), (6, false), (7, false)] (by kernel_rfl) (q6 P N2)) (r_seq (b (q5 P N2)) (r_cond rfl (rT T0_ok mixed (.op 0 [] (.op 1 [] (.op 3 [] (.op 4 [] (.op 5 [] (.op 6 [] (.op 9 [] (.op 10 [] (.op 11 [] (.op 12 [] (.op 13 [] (.op 14 [] (.op 15 [] (.op 16 [] (.op 17 [] (.op 18 [] (.alt (.op 2 [0, 6] (.op 7 [] (.op 8 [0] (.op 19 [] (.op 20 [] .done))))) (.op 7 [] (.op 2 [0, 6] (.op 8 [0] (.op 19 [] (.op 20 [] .done)))))))))))))))))))))) (by kernel_rfl) (q4 P N2)) r_skip)))) (b (q3 P N2)))))))) (r_seq (b (q1 P)) r_ret)))))))
theorem ac (P : PT) (x0a : Int) (x0b x1 : Value) (x2 : Int) (x3 : Value) (H : AHeap) (h : B16 P x0a x0b x1 x2 x3 H) : AC Tryz.prog T0 157 [(Value.agg ⟨[(Value.int .i64 x0a), x0b]⟩), x1, (Value.int .i64 x2), x3] H P :=
  r_fn T0_ok (c := code) (n := 77) Tryz.func157 body (by kernel_rfl) (main P) (En_mk (x0a, x0b, x1, x2, x3, ()) (by kernel_rfl) ⟨by kernel_rfl, by kernel_rfl, by kernel_rfl, by kernel_rfl, trivial⟩ h)

end F157
namespace F158
abbrev E := En 18
abbrev Q := QB Tryz.prog T0 18
def O (k : Nat) := ob Tryz.f158 (pth k)
def ret (P : PT) : EP := retE T0 18 Tryz.f158 P
abbrev k0 : Sk := []
def o1 := O 14
def B1 (P : PT) : Y k0 := fun H =>
  P (Value.bool false) H
theorem q1 P : Q o1 (ret P) k0 (B1 P) := fun _ _ => by kernel_rfl
abbrev k1 : Sk := [(0,.v),(1,J),(5,J)]
def o3 := O 211
def B3 (P : PT) (N2 : Y k1) : Y k1 := fun x0 x1 x5 H =>
  N2 x0 x1 (IntKind.i64.wrap (x5 + 1)) H
theorem q3 P N2 : Q o3 (E k1 N2) k1 (B3 P N2) := fun _ _ _ _ _ => by kernel_rfl
def o4 := O 3364
def B4 (P : PT) (N2 : Y k1) : Y k0 := fun H =>
  P (Value.bool true) H
theorem q4 P N2 : Q o4 (ret P) k0 (B4 P N2) := fun _ _ => by kernel_rfl
def o5 := O 840
def B5 (P : PT) (N2 : Y k1) : Y k1 := fun x0 x1 x5 H =>
  idxK x0 x5 1 (fun b1 o2 => ldI .i64 H b1 o2 (fun v3 => pif ((v3 : Int) == x1) (B4 P N2 H) (B3 P N2 x0 x1 x5 H)))
theorem q5 P N2 : Q o5 (cnd 17 (E k0 (B4 P N2)) (E k1 (B3 P N2))) k1 (B5 P N2) := fun _ _ _ _ _ => by kernel_rfl
def o6 := O 208
def B6 (P : PT) (N2 : Y k1) : Y k1 := fun x0 x1 x5 H =>
  lenK x0 (fun n1 => pif (decide ((x5 : Int) < (n1 : Int))) (B5 P N2 x0 x1 x5 H) (B1 P H))
theorem q6 P N2 : Q o6 (cnd 9 (E k1 (B5 P N2)) (E k0 (B1 P))) k1 (B6 P N2) := fun _ _ _ _ _ => by kernel_rfl
def L2 (P : PT) : Y k1 := fun x0 x1 x5 H =>
  ∃ (I : Y k1) (μ : NTy k1 (AHeap → Nat)), I x0 x1 x5 H ∧ ∀ y0 y1 y5 G, I y0 y1 y5 G → B6 P (fun z0 z1 z5 G' => I z0 z1 z5 G' ∧ μ z0 z1 z5 G' < μ y0 y1 y5 G) y0 y1 y5 G
theorem l2 P : LQ k1 (L2 P) (B6 P) := fun ⟨_,_,_,_⟩ _ ⟨I, μ, h0, hI⟩ => ⟨apT _ I, apT _ μ, h0, fun ⟨_,_,_,_⟩ _ h => hI _ _ _ _  h⟩
abbrev k2 : Sk := [(0,.v),(1,J)]
def o7 := O 12
def B7 (P : PT) : Y k2 := fun x0 x1 H =>
  L2 P x0 x1 0 H
theorem q7 P : Q o7 (E k1 (L2 P)) k2 (B7 P) := fun _ _ _ _ => by kernel_rfl
def o8 := O 2
def B8 (P : PT) : Y k2 := fun x0 x1 H =>
  B7 P x0 x1 H
theorem q8 P : Q o8 (E k2 (B7 P)) k2 (B8 P) := fun _ _ _ _ => by kernel_rfl
def code : Code := (.seq (R 0 o8) (.seq (.seq (R 1 o7) (.block 0 (.loop (.seq (.seq (R 2 o6) (.cond (.tmp 9) .skip (.exit 0))) (.seq (.block 1 (.seq (R 4 o5) (.cond (.tmp 17) (.seq (R 5 o4) .ret) .skip))) (R 3 o3)))))) (.seq (R 6 o1) .ret)))
theorem body : Tryz.f158.body = some code := by kernel_rfl
theorem main (P : PT) : ∀ env H, (En 18 k2 (B8 P)) env H → AW Tryz.prog T0 code env H (M (ret P)) :=
  (r_seq (b (q8 P)) (r_seq (r_seq (b (q7 P)) (r_block (rL (l2 P) (fun N2 => (r_seq (r_seq (b (q6 P N2)) (r_cond rfl r_skip (r_exit (fun _ _ h => h)))) (r_seq (r_block (r_seq (b (q5 P N2)) (r_cond rfl (r_seq (b (q4 P N2)) r_ret) r_skip))) (b (q3 P N2)))))))) (r_seq (b (q1 P)) r_ret)))
theorem ac (P : PT) (x0 : Value) (x1 : Int) (H : AHeap) (h : B8 P x0 x1 H) : AC Tryz.prog T0 158 [x0, (Value.int .i64 x1)] H P :=
  r_fn T0_ok (c := code) (n := 18) Tryz.func158 body (by kernel_rfl) (main P) (En_mk (x0, x1, ()) (by kernel_rfl) ⟨by kernel_rfl, by kernel_rfl, trivial⟩ h)

end F158
namespace F159
abbrev E := En 12
abbrev Q := QB Tryz.prog T0 12
def O (k : Nat) := ob Tryz.f159 (pth k)
def ret (P : PT) : EP := retE T0 12 Tryz.f159 P
abbrev k0 : Sk := [(0,.v),(1,.v)]
def o1 := O 6
def B1 (P : PT) : Y k0 := fun x0 x1 H =>
  lenK x1 (fun n1 => AC Tryz.prog T0 88 [x0, (Value.int .i64 (n1 : Int))] H (fun v2 H3 => asI .i64 v2 (fun v4 => idxK x1 v4 1 (fun b5 o6 => ldI .i64 H3 b5 o6 (fun v7 => P (Value.int .i64 v7) H3)))))
theorem q1 P : Q o1 (ret P) k0 (B1 P) := fun _ _ _ _ => by kernel_rfl
def o2 := O 2
def B2 (P : PT) : Y k0 := fun x0 x1 H =>
  B1 P x0 x1 H
theorem q2 P : Q o2 (E k0 (B1 P)) k0 (B2 P) := fun _ _ _ _ => by kernel_rfl
def code : Code := (.seq (R 0 o2) (.seq (R 1 o1) .ret))
theorem body : Tryz.f159.body = some code := by kernel_rfl
theorem main (P : PT) : ∀ env H, (En 12 k0 (B2 P)) env H → AW Tryz.prog T0 code env H (M (ret P)) :=
  (r_seq (b (q2 P)) (r_seq (b (q1 P)) r_ret))
theorem ac (P : PT) (x0 x1 : Value) (H : AHeap) (h : B2 P x0 x1 H) : AC Tryz.prog T0 159 [x0, x1] H P :=
  r_fn T0_ok (c := code) (n := 12) Tryz.func159 body (by kernel_rfl) (main P) (En_mk (x0, x1, ()) (by kernel_rfl) ⟨by kernel_rfl, by kernel_rfl, trivial⟩ h)

end F159
namespace F160
abbrev E := En 33
abbrev Q := QB Tryz.prog T0 33
def O (k : Nat) := ob Tryz.f160 (pth k)
def ret (P : PT) : EP := retE T0 33 Tryz.f160 P
abbrev k0 : Sk := []
def o1 := O 14
def B1 (P : PT) : Y k0 := fun H =>
  P (Value.bool true) H
theorem q1 P : Q o1 (ret P) k0 (B1 P) := fun _ _ => by kernel_rfl
abbrev k1 : Sk := [(0,.v),(1,J),(7,.v),(8,J),(9,J)]
def o3 := O 423
def B3 (P : PT) (N2 : Y k1) : Y k1 := fun x0 x1 x7 x8 x9 H =>
  N2 x0 x1 x7 x8 (IntKind.i64.wrap (x9 + 1)) H
theorem q3 P N2 : Q o3 (E k1 N2) k1 (B3 P N2) := fun _ _ _ _ _ _ _ => by kernel_rfl
def o4 := O 13516
def B4 (P : PT) (N2 : Y k1) : Y k0 := fun H =>
  P (Value.bool false) H
theorem q4 P N2 : Q o4 (ret P) k0 (B4 P N2) := fun _ _ => by kernel_rfl
abbrev k2 : Sk := [(0,.v),(1,J),(5,J),(6,J),(7,.v),(8,J),(9,J)]
def o5 := O 3378
def B5 (P : PT) (N2 : Y k1) : Y k2 := fun x0 x1 x5 x6 x7 x8 x9 H =>
  AC Tryz.prog T0 114 [(Value.int .i64 x6), (Value.int .i64 0), (Value.int .i64 (IntKind.i64.wrap (x1 - 1)))] H (fun v1 H2 => asB v1 (fun v3 => pif (!v3) (B4 P N2 H2) (pif (decide ((x5 : Int) > 0)) (idxK x0 (IntKind.i64.wrap (x5 - 1)) 1 (fun b4 o5 => ldI .i64 H2 b4 o5 (fun v6 => pif (decide ((x6 : Int) ≤ v6)) (B4 P N2 H2) (B3 P N2 x0 x1 x7 x8 x9 H2)))) (B3 P N2 x0 x1 x7 x8 x9 H2))))
theorem q5 P N2 : Q o5 (cnd 31 (E k0 (B4 P N2)) (E k1 (B3 P N2))) k2 (B5 P N2) := fun _ _ _ _ _ _ _ _ _ => by kernel_rfl
def o6 := O 1688
def B6 (P : PT) (N2 : Y k1) : Y k1 := fun x0 x1 x7 x8 x9 H =>
  idxK x7 x9 1 (fun b1 o2 => ldI .i64 H b1 o2 (fun v3 => B5 P N2 x0 x1 x9 v3 x7 x8 x9 H))
theorem q6 P N2 : Q o6 (E k2 (B5 P N2)) k1 (B6 P N2) := fun _ _ _ _ _ _ _ => by kernel_rfl
def o7 := O 104
def B7 (P : PT) (N2 : Y k1) : Y k1 := fun x0 x1 x7 x8 x9 H =>
  pif (decide ((x9 : Int) < x8)) (B6 P N2 x0 x1 x7 x8 x9 H) (B1 P H)
theorem q7 P N2 : Q o7 (cnd 10 (E k1 (B6 P N2)) (E k0 (B1 P))) k1 (B7 P N2) := fun _ _ _ _ _ _ _ => by kernel_rfl
def L2 (P : PT) : Y k1 := fun x0 x1 x7 x8 x9 H =>
  ∃ (I : Y k1) (μ : NTy k1 (AHeap → Nat)), I x0 x1 x7 x8 x9 H ∧ ∀ y0 y1 y7 y8 y9 G, I y0 y1 y7 y8 y9 G → B7 P (fun z0 z1 z7 z8 z9 G' => I z0 z1 z7 z8 z9 G' ∧ μ z0 z1 z7 z8 z9 G' < μ y0 y1 y7 y8 y9 G) y0 y1 y7 y8 y9 G
theorem l2 P : LQ k1 (L2 P) (B7 P) := fun ⟨_,_,_,_,_,_⟩ _ ⟨I, μ, h0, hI⟩ => ⟨apT _ I, apT _ μ, h0, fun ⟨_,_,_,_,_,_⟩ _ h => hI _ _ _ _ _ _  h⟩
abbrev k3 : Sk := [(0,.v),(1,J)]
def o8 := O 12
def B8 (P : PT) : Y k3 := fun x0 x1 H =>
  lenK x0 (fun n1 => L2 P x0 x1 x0 (n1 : Int) 0 H)
theorem q8 P : Q o8 (E k1 (L2 P)) k3 (B8 P) := fun _ _ _ _ => by kernel_rfl
def o9 := O 2
def B9 (P : PT) : Y k3 := fun x0 x1 H =>
  B8 P x0 x1 H
theorem q9 P : Q o9 (E k3 (B8 P)) k3 (B9 P) := fun _ _ _ _ => by kernel_rfl
def code : Code := (.seq (R 0 o9) (.seq (.seq (R 1 o8) (.block 0 (.loop (.seq (R 2 o7) (.seq (.cond (.tmp 10) .skip (.exit 0)) (.seq (.block 1 (.seq (R 3 o6) (.seq (R 4 o5) (.cond (.tmp 31) (.seq (R 5 o4) .ret) .skip)))) (R 6 o3))))))) (.seq (R 7 o1) .ret)))
theorem body : Tryz.f160.body = some code := by kernel_rfl
theorem main (P : PT) : ∀ env H, (En 33 k3 (B9 P)) env H → AW Tryz.prog T0 code env H (M (ret P)) :=
  (r_seq (b (q9 P)) (r_seq (r_seq (b (q8 P)) (r_block (rL (l2 P) (fun N2 => (r_seq (b (q7 P N2)) (r_seq (r_cond rfl r_skip (r_exit (fun _ _ h => h))) (r_seq (r_block (r_seq (b (q6 P N2)) (r_seq (b (q5 P N2)) (r_cond rfl (r_seq (b (q4 P N2)) r_ret) r_skip)))) (b (q3 P N2))))))))) (r_seq (b (q1 P)) r_ret)))
theorem ac (P : PT) (x0 : Value) (x1 : Int) (H : AHeap) (h : B9 P x0 x1 H) : AC Tryz.prog T0 160 [x0, (Value.int .i64 x1)] H P :=
  r_fn T0_ok (c := code) (n := 33) Tryz.func160 body (by kernel_rfl) (main P) (En_mk (x0, x1, ()) (by kernel_rfl) ⟨by kernel_rfl, by kernel_rfl, trivial⟩ h)

end F160
namespace F161
abbrev E := En 5
abbrev Q := QB Tryz.prog T0 5
def O (k : Nat) := ob Tryz.f161 (pth k)
def ret (P : PT) : EP := retE T0 5 Tryz.f161 P
abbrev k0 : Sk := [(0,.v)]
def o1 := O 6
def B1 (P : PT) : Y k0 := fun x0 H =>
  lenK x0 (fun n1 => P (Value.int .i64 (n1 : Int)) H)
theorem q1 P : Q o1 (ret P) k0 (B1 P) := fun _ _ _ => by kernel_rfl
def o2 := O 2
def B2 (P : PT) : Y k0 := fun x0 H =>
  B1 P x0 H
theorem q2 P : Q o2 (E k0 (B1 P)) k0 (B2 P) := fun _ _ _ => by kernel_rfl
def code : Code := (.seq (R 0 o2) (.seq (R 1 o1) .ret))
theorem body : Tryz.f161.body = some code := by kernel_rfl
theorem main (P : PT) : ∀ env H, (En 5 k0 (B2 P)) env H → AW Tryz.prog T0 code env H (M (ret P)) :=
  (r_seq (b (q2 P)) (r_seq (b (q1 P)) r_ret))
theorem ac (P : PT) (x0 : Value) (H : AHeap) (h : B2 P x0 H) : AC Tryz.prog T0 161 [x0] H P :=
  r_fn T0_ok (c := code) (n := 5) Tryz.func161 body (by kernel_rfl) (main P) (En_mk (x0, ()) (by kernel_rfl) ⟨by kernel_rfl, trivial⟩ h)

end F161
namespace F162
abbrev E := En 81
abbrev Q := QB Tryz.prog T0 81
def O (k : Nat) := ob Tryz.f162 (pth k)
def ret (P : PT) : EP := retE T0 81 Tryz.f162 P
abbrev k0 : Sk := [(5,.v)]
def o1 := O 30
def B1 (P : PT) : Y k0 := fun x5 H =>
  P x5 H
theorem q1 P : Q o1 (ret P) k0 (B1 P) := fun _ _ _ => by kernel_rfl
abbrev k1 : Sk := [(1,.i .u64),(2,.x),(5,.v),(15,.v),(16,J),(17,J)]
def o3 := O 935
def B3 (P : PT) (N2 : Y k1) : Y k1 := fun x1 x2 x5 x15 x16 x17 H =>
  N2 x1 x2 x5 x15 x16 (IntKind.i64.wrap (x17 + 1)) H
theorem q3 P N2 : Q o3 (E k1 N2) k1 (B3 P N2) := fun _ _ _ _ _ _ _ _ => by kernel_rfl
abbrev k2 : Sk := [(1,.i .u64),(2,.x),(5,.v),(8,.i .u64),(15,.v),(16,J),(17,J)]
def o4 := O 29903
def B4 (P : PT) (N2 : Y k1) : Y k2 := fun x1 x2 x5 x8 x15 x16 x17 H =>
  newK H [(Value.int .u64 x8)] 83 (fun b1 H2 => apK T0 83 H2 x5 (Value.slice (some ⟨b1, 0, none⟩) 1 (1 + 1)) (fun v3 H4 => B3 P N2 x1 x2 v3 x15 x16 x17 H4))
theorem q4 P N2 : Q o4 (E k1 (B3 P N2)) k2 (B4 P N2) := fun _ _ _ _ _ _ _ _ _ => by kernel_rfl
abbrev k3 : Sk := [(1,.i .u64),(2,.x),(5,.v),(8,.i .u64),(9,.v),(15,.v),(16,J),(17,J)]
def o6 := O 956883
def B6 (P : PT) (N2 : Y k1) (N5 : Y k3) : Y k3 := fun x1 x2 x5 x8 x9 x15 x16 x17 H =>
  sliceK H 2 x9 (some (Value.int .i64 1)) none 1 (fun v1 => N5 x1 x2 x5 x8 v1 x15 x16 x17 H)
theorem q6 P N2 N5 : Q o6 (E k3 N5) k3 (B6 P N2 N5) := fun _ _ _ _ _ _ _ _ _ _ => by kernel_rfl
abbrev k4 : Sk := [(1,.i .u64),(2,.x),(5,.v),(8,.i .u64),(9,.v),(15,.v),(16,J),(17,J),(44,.g [.i,.i]),(45,J)]
def o8 := O 122480935
def B8 (P : PT) (N2 : Y k1) (N5 : Y k3) (N7 : Y k4) : Y k4 := fun x1 x2 x5 x8 x9 x15 x16 x17 x44a x44b x45 H =>
  N7 x1 x2 x5 x8 x9 x15 x16 x17 x44a x44b (IntKind.i64.wrap (x45 + 1)) H
theorem q8 P N2 N5 N7 : Q o8 (E k4 N7) k4 (B8 P N2 N5 N7) := fun _ _ _ _ _ _ _ _ _ _ _ _ _ => by kernel_rfl
abbrev k5 : Sk := [(1,.i .u64),(2,.x),(5,.v),(8,.i .u64),(9,.v),(15,.v),(16,J),(17,J),(44,.g [.i,.i]),(45,J),(50,.v),(51,J),(52,J)]
def o10 := O 31355119207
def B10 (P : PT) (N2 : Y k1) (N5 : Y k3) (N7 : Y k4) (N9 : Y k5) : Y k5 := fun x1 x2 x5 x8 x9 x15 x16 x17 x44a x44b x45 x50 x51 x52 H =>
  N9 x1 x2 x5 x8 x9 x15 x16 x17 x44a x44b x45 x50 x51 (IntKind.i64.wrap (x52 + 1)) H
theorem q10 P N2 N5 N7 N9 : Q o10 (E k5 N9) k5 (B10 P N2 N5 N7 N9) := fun _ _ _ _ _ _ _ _ _ _ _ _ _ _ _ _ => by kernel_rfl
abbrev k6 : Sk := [(1,.i .u64),(2,.x),(5,.v),(8,.i .u64),(9,.v),(13,J),(15,.v),(16,J),(17,J),(44,.g [.i,.i]),(45,J),(50,.v),(51,J),(52,J)]
def o11 := O 1003363814605
def B11 (P : PT) (N2 : Y k1) (N5 : Y k3) (N7 : Y k4) (N9 : Y k5) : Y k6 := fun x1 x2 x5 x8 x9 x13 x15 x16 x17 x44a x44b x45 x50 x51 x52 H =>
  newK H [(Value.int .i64 x13)] 2 (fun b1 H2 => apK T0 2 H2 x9 (Value.slice (some ⟨b1, 0, none⟩) 1 (1 + 1)) (fun v3 H4 => B10 P N2 N5 N7 N9 x1 x2 x5 x8 v3 x15 x16 x17 x44a x44b x45 x50 x51 x52 H4))
theorem q11 P N2 N5 N7 N9 : Q o11 (E k5 (B10 P N2 N5 N7 N9)) k6 (B11 P N2 N5 N7 N9) := fun _ _ _ _ _ _ _ _ _ _ _ _ _ _ _ _ _ => by kernel_rfl
def o12 := O 1003363814604
def B12 (P : PT) (N2 : Y k1) (N5 : Y k3) (N7 : Y k4) (N9 : Y k5) : Y k6 := fun x1 x2 x5 x8 x9 x13 x15 x16 x17 x44a x44b x45 x50 x51 x52 H =>
  ((0 : Int) ≤ x13) ∧ (B11 P N2 N5 N7 N9 x1 x2 x5 (IntKind.u64.wrap (BitVec.ofInt 64 x8 ||| BitVec.ofInt 64 (IntKind.u64.wrap (1 * 2 ^ (min (Int.toNat x13) 64)))).toNat) x9 x13 x15 x16 x17 x44a x44b x45 x50 x51 x52 H)
theorem q12 P N2 N5 N7 N9 : Q o12 (E k6 (B11 P N2 N5 N7 N9)) k6 (B12 P N2 N5 N7 N9) := fun _ _ _ _ _ _ _ _ _ _ _ _ _ _ _ _ _ => by kernel_rfl
def o13 := O 250840953650
def B13 (P : PT) (N2 : Y k1) (N5 : Y k3) (N7 : Y k4) (N9 : Y k5) : Y k6 := fun x1 x2 x5 x8 x9 x13 x15 x16 x17 x44a x44b x45 x50 x51 x52 H =>
  AC Tryz.prog T0 144 [(Value.int .u64 x1), (Value.int .i64 x13)] H (fun v1 H2 => asB v1 (fun v3 => pif v3 (AC Tryz.prog T0 144 [(Value.int .u64 x8), (Value.int .i64 x13)] H2 (fun v4 H5 => asB v4 (fun v6 => pif (!v6) (B12 P N2 N5 N7 N9 x1 x2 x5 x8 x9 x13 x15 x16 x17 x44a x44b x45 x50 x51 x52 H5) (B10 P N2 N5 N7 N9 x1 x2 x5 x8 x9 x15 x16 x17 x44a x44b x45 x50 x51 x52 H5)))) (B10 P N2 N5 N7 N9 x1 x2 x5 x8 x9 x15 x16 x17 x44a x44b x45 x50 x51 x52 H2)))
theorem q13 P N2 N5 N7 N9 : Q o13 (cnd 64 (E k6 (B12 P N2 N5 N7 N9)) (E k5 (B10 P N2 N5 N7 N9))) k6 (B13 P N2 N5 N7 N9) := fun _ _ _ _ _ _ _ _ _ _ _ _ _ _ _ _ _ => by kernel_rfl
def o14 := O 125420476824
def B14 (P : PT) (N2 : Y k1) (N5 : Y k3) (N7 : Y k4) (N9 : Y k5) : Y k5 := fun x1 x2 x5 x8 x9 x15 x16 x17 x44a x44b x45 x50 x51 x52 H =>
  idxK x50 x52 1 (fun b1 o2 => ldI .i64 H b1 o2 (fun v3 => B13 P N2 N5 N7 N9 x1 x2 x5 x8 x9 v3 x15 x16 x17 x44a x44b x45 x50 x51 x52 H))
theorem q14 P N2 N5 N7 N9 : Q o14 (E k6 (B13 P N2 N5 N7 N9)) k5 (B14 P N2 N5 N7 N9) := fun _ _ _ _ _ _ _ _ _ _ _ _ _ _ _ _ => by kernel_rfl
def o15 := O 7838779800
def B15 (P : PT) (N2 : Y k1) (N5 : Y k3) (N7 : Y k4) (N9 : Y k5) : Y k5 := fun x1 x2 x5 x8 x9 x15 x16 x17 x44a x44b x45 x50 x51 x52 H =>
  pif (decide ((x52 : Int) < x51)) (B14 P N2 N5 N7 N9 x1 x2 x5 x8 x9 x15 x16 x17 x44a x44b x45 x50 x51 x52 H) (B8 P N2 N5 N7 x1 x2 x5 x8 x9 x15 x16 x17 x44a x44b x45 H)
theorem q15 P N2 N5 N7 N9 : Q o15 (cnd 53 (E k5 (B14 P N2 N5 N7 N9)) (E k4 (B8 P N2 N5 N7))) k5 (B15 P N2 N5 N7 N9) := fun _ _ _ _ _ _ _ _ _ _ _ _ _ _ _ _ => by kernel_rfl
def L9 (P : PT) (N2 : Y k1) (N5 : Y k3) (N7 : Y k4) : Y k5 := fun x1 x2 x5 x8 x9 x15 x16 x17 x44a x44b x45 x50 x51 x52 H =>
  ∃ (I : Y k5) (μ : NTy k5 (AHeap → Nat)), I x1 x2 x5 x8 x9 x15 x16 x17 x44a x44b x45 x50 x51 x52 H ∧ ∀ y1 y2 y5 y8 y9 y15 y16 y17 y44a y44b y45 y50 y51 y52 G, I y1 y2 y5 y8 y9 y15 y16 y17 y44a y44b y45 y50 y51 y52 G → B15 P N2 N5 N7 (fun z1 z2 z5 z8 z9 z15 z16 z17 z44a z44b z45 z50 z51 z52 G' => I z1 z2 z5 z8 z9 z15 z16 z17 z44a z44b z45 z50 z51 z52 G' ∧ μ z1 z2 z5 z8 z9 z15 z16 z17 z44a z44b z45 z50 z51 z52 G' < μ y1 y2 y5 y8 y9 y15 y16 y17 y44a y44b y45 y50 y51 y52 G) y1 y2 y5 y8 y9 y15 y16 y17 y44a y44b y45 y50 y51 y52 G
theorem l9 P N2 N5 N7 : LQ k5 (L9 P N2 N5 N7) (B15 P N2 N5 N7) := fun ⟨_,_,_,_,_,_,_,_,_,_,_,_,_,_,_⟩ _ ⟨I, μ, h0, hI⟩ => ⟨apT _ I, apT _ μ, h0, fun ⟨_,_,_,_,_,_,_,_,_,_,_,_,_,_,_⟩ _ h => hI _ _ _ _ _ _ _ _ _ _ _ _ _ _ _  h⟩
abbrev k7 : Sk := [(1,.i .u64),(2,.x),(5,.v),(8,.i .u64),(9,.v),(11,J),(15,.v),(16,J),(17,J),(44,.g [.i,.i]),(45,J)]
def o16 := O 979847474
def B16 (P : PT) (N2 : Y k1) (N5 : Y k3) (N7 : Y k4) : Y k7 := fun x1 x2 x5 x8 x9 x11 x15 x16 x17 x44a x44b x45 H =>
  ldI .i64 H x2 0 (fun v1 => ld1 H x2 1 (fun v2 => AC Tryz.prog T0 112 [(Value.agg ⟨[(Value.int .i64 v1), v2]⟩), (Value.int .i64 x11)] H (fun v3 H4 => lenK v3 (fun n6 => L9 P N2 N5 N7 x1 x2 x5 x8 x9 x15 x16 x17 x44a x44b x45 v3 (n6 : Int) 0 H4))))
theorem q16 P N2 N5 N7 : Q o16 (E k5 (L9 P N2 N5 N7)) k7 (B16 P N2 N5 N7) := fun _ _ _ _ _ _ _ _ _ _ _ _ _ _ => by kernel_rfl
def o17 := O 489923736
def B17 (P : PT) (N2 : Y k1) (N5 : Y k3) (N7 : Y k4) : Y k4 := fun x1 x2 x5 x8 x9 x15 x16 x17 x44a x44b x45 H =>
  bndK x45 2 (atK [(Value.int .i64 x44a), (Value.int .i64 x44b)] (Int.toNat x45 * 1) (fun v1 => asI .i64 v1 (fun v2 => B16 P N2 N5 N7 x1 x2 x5 x8 x9 v2 x15 x16 x17 x44a x44b x45 H)))
theorem q17 P N2 N5 N7 : Q o17 (E k7 (B16 P N2 N5 N7)) k4 (B17 P N2 N5 N7) := fun _ _ _ _ _ _ _ _ _ _ _ _ _ => by kernel_rfl
def o18 := O 30620232
def B18 (P : PT) (N2 : Y k1) (N5 : Y k3) (N7 : Y k4) : Y k4 := fun x1 x2 x5 x8 x9 x15 x16 x17 x44a x44b x45 H =>
  pif (decide ((x45 : Int) < 2)) (B17 P N2 N5 N7 x1 x2 x5 x8 x9 x15 x16 x17 x44a x44b x45 H) (B6 P N2 N5 x1 x2 x5 x8 x9 x15 x16 x17 H)
theorem q18 P N2 N5 N7 : Q o18 (cnd 46 (E k4 (B17 P N2 N5 N7)) (E k3 (B6 P N2 N5))) k4 (B18 P N2 N5 N7) := fun _ _ _ _ _ _ _ _ _ _ _ _ _ => by kernel_rfl
def L7 (P : PT) (N2 : Y k1) (N5 : Y k3) : Y k4 := fun x1 x2 x5 x8 x9 x15 x16 x17 x44a x44b x45 H =>
  ∃ (I : Y k4) (μ : NTy k4 (AHeap → Nat)), I x1 x2 x5 x8 x9 x15 x16 x17 x44a x44b x45 H ∧ ∀ y1 y2 y5 y8 y9 y15 y16 y17 y44a y44b y45 G, I y1 y2 y5 y8 y9 y15 y16 y17 y44a y44b y45 G → B18 P N2 N5 (fun z1 z2 z5 z8 z9 z15 z16 z17 z44a z44b z45 G' => I z1 z2 z5 z8 z9 z15 z16 z17 z44a z44b z45 G' ∧ μ z1 z2 z5 z8 z9 z15 z16 z17 z44a z44b z45 G' < μ y1 y2 y5 y8 y9 y15 y16 y17 y44a y44b y45 G) y1 y2 y5 y8 y9 y15 y16 y17 y44a y44b y45 G
theorem l7 P N2 N5 : LQ k4 (L7 P N2 N5) (B18 P N2 N5) := fun ⟨_,_,_,_,_,_,_,_,_,_,_,_⟩ _ ⟨I, μ, h0, hI⟩ => ⟨apT _ I, apT _ μ, h0, fun ⟨_,_,_,_,_,_,_,_,_,_,_,_⟩ _ h => hI _ _ _ _ _ _ _ _ _ _ _ _  h⟩
def o19 := O 3827528
def B19 (P : PT) (N2 : Y k1) (N5 : Y k3) : Y k3 := fun x1 x2 x5 x8 x9 x15 x16 x17 H =>
  ld1 H x2 1 (fun v1 => idxK x9 0 1 (fun b2 o3 => ldI .i64 H b2 o3 (fun v4 => idxK v1 v4 2 (fun b5 o6 => ldI .i64 H b5 o6 (fun v7 => ldI .i64 H b5 (o6 + 1) (fun v8 => L7 P N2 N5 x1 x2 x5 x8 x9 x15 x16 x17 v7 v8 0 H))))))
theorem q19 (P : PT) (N2 : Y k1) (N5 : Y k3) : QD Tryz.prog T0 81 o19 [(0, false), (1, false), (2, false), (3, false), (4, false), (5, false), (6, false), (7, false)] (En 81 k4 (L7 P N2 N5)) k3 (B19 P N2 N5) := fun _ _ _ _ _ _ _ _ _ _  => by kernel_rfl
def o20 := O 956880
def B20 (P : PT) (N2 : Y k1) (N5 : Y k3) : Y k3 := fun x1 x2 x5 x8 x9 x15 x16 x17 H =>
  lenK x9 (fun n1 => pif (decide (((n1 : Int) : Int) > 0)) (B19 P N2 N5 x1 x2 x5 x8 x9 x15 x16 x17 H) (B4 P N2 x1 x2 x5 x8 x15 x16 x17 H))
theorem q20 P N2 N5 : Q o20 (cnd 35 (E k3 (B19 P N2 N5)) (E k2 (B4 P N2))) k3 (B20 P N2 N5) := fun _ _ _ _ _ _ _ _ _ _ => by kernel_rfl
def L5 (P : PT) (N2 : Y k1) : Y k3 := fun x1 x2 x5 x8 x9 x15 x16 x17 H =>
  ∃ (I : Y k3) (μ : NTy k3 (AHeap → Nat)), I x1 x2 x5 x8 x9 x15 x16 x17 H ∧ ∀ y1 y2 y5 y8 y9 y15 y16 y17 G, I y1 y2 y5 y8 y9 y15 y16 y17 G → B20 P N2 (fun z1 z2 z5 z8 z9 z15 z16 z17 G' => I z1 z2 z5 z8 z9 z15 z16 z17 G' ∧ μ z1 z2 z5 z8 z9 z15 z16 z17 G' < μ y1 y2 y5 y8 y9 y15 y16 y17 G) y1 y2 y5 y8 y9 y15 y16 y17 G
theorem l5 P N2 : LQ k3 (L5 P N2) (B20 P N2) := fun ⟨_,_,_,_,_,_,_,_,_⟩ _ ⟨I, μ, h0, hI⟩ => ⟨apT _ I, apT _ μ, h0, fun ⟨_,_,_,_,_,_,_,_,_⟩ _ h => hI _ _ _ _ _ _ _ _ _  h⟩
abbrev k8 : Sk := [(1,.i .u64),(2,.x),(5,.v),(7,.x),(8,.i .u64),(15,.v),(16,J),(17,J)]
def o21 := O 59804
def B21 (P : PT) (N2 : Y k1) : Y k8 := fun x1 x2 x5 x7 x8 x15 x16 x17 H =>
  ldI .i64 H x7 0 (fun v1 => newK H [(Value.int .i64 v1)] 2 (fun b2 H3 => L5 P N2 x1 x2 x5 x8 (Value.slice (some ⟨b2, 0, none⟩) 1 (1 + 1)) x15 x16 x17 H3))
theorem q21 P N2 : Q o21 (E k3 (L5 P N2)) k8 (B21 P N2) := fun _ _ _ _ _ _ _ _ _ _ => by kernel_rfl
abbrev k9 : Sk := [(1,.i .u64),(2,.x),(5,.v),(7,.x),(15,.v),(16,J),(17,J)]
def o22 := O 14950
def B22 (P : PT) (N2 : Y k1) : Y k9 := fun x1 x2 x5 x7 x15 x16 x17 H =>
  ldI .i64 H x7 0 (fun v1 => ((0 : Int) ≤ v1) ∧ (B21 P N2 x1 x2 x5 x7 (IntKind.u64.wrap (1 * 2 ^ (min (Int.toNat v1) 64))) x15 x16 x17 H))
theorem q22 P N2 : Q o22 (E k8 (B21 P N2)) k9 (B22 P N2) := fun _ _ _ _ _ _ _ _ _ => by kernel_rfl
def o23 := O 14948
def B23 (P : PT) (N2 : Y k1) : Y k9 := fun x1 x2 x5 x7 x15 x16 x17 H =>
  lenK x5 (fun n1 => pif (decide (((n1 : Int) : Int) > 0)) (AC Tryz.prog T0 190 [x5, (Value.func (.func 191) ⟨[]⟩ ⟨[(Value.pointer (some ⟨x7, 0, none⟩))]⟩)] H (fun v2 H3 => asB v2 (fun v4 => pif v4 (B3 P N2 x1 x2 x5 x15 x16 x17 H3) (B22 P N2 x1 x2 x5 x7 x15 x16 x17 H3)))) (B22 P N2 x1 x2 x5 x7 x15 x16 x17 H))
theorem q23 P N2 : Q o23 (cnd 28 (E k1 (B3 P N2)) (E k9 (B22 P N2))) k9 (B23 P N2) := fun _ _ _ _ _ _ _ _ _ => by kernel_rfl
def o24 := O 3736
def B24 (P : PT) (N2 : Y k1) : Y k1 := fun x1 x2 x5 x15 x16 x17 H =>
  idxK x15 x17 1 (fun b1 o2 => ldI .i64 H b1 o2 (fun v3 => newK H [(Value.int .i64 0)] 2 (fun b4 H5 => stK H5 b4 0 [(Value.int .i64 v3)] (fun H6 => B23 P N2 x1 x2 x5 b4 x15 x16 x17 H6))))
theorem q24 P N2 : Q o24 (E k9 (B23 P N2)) k1 (B24 P N2) := fun _ _ _ _ _ _ _ _ => by kernel_rfl
def o25 := O 232
def B25 (P : PT) (N2 : Y k1) : Y k1 := fun x1 x2 x5 x15 x16 x17 H =>
  pif (decide ((x17 : Int) < x16)) (B24 P N2 x1 x2 x5 x15 x16 x17 H) (B1 P x5 H)
theorem q25 P N2 : Q o25 (cnd 18 (E k1 (B24 P N2)) (E k0 (B1 P))) k1 (B25 P N2) := fun _ _ _ _ _ _ _ _ => by kernel_rfl
def L2 (P : PT) : Y k1 := fun x1 x2 x5 x15 x16 x17 H =>
  ∃ (I : Y k1) (μ : NTy k1 (AHeap → Nat)), I x1 x2 x5 x15 x16 x17 H ∧ ∀ y1 y2 y5 y15 y16 y17 G, I y1 y2 y5 y15 y16 y17 G → B25 P (fun z1 z2 z5 z15 z16 z17 G' => I z1 z2 z5 z15 z16 z17 G' ∧ μ z1 z2 z5 z15 z16 z17 G' < μ y1 y2 y5 y15 y16 y17 G) y1 y2 y5 y15 y16 y17 G
theorem l2 P : LQ k1 (L2 P) (B25 P) := fun ⟨_,_,_,_,_,_,_⟩ _ ⟨I, μ, h0, hI⟩ => ⟨apT _ I, apT _ μ, h0, fun ⟨_,_,_,_,_,_,_⟩ _ h => hI _ _ _ _ _ _ _  h⟩
abbrev k10 : Sk := [(1,.i .u64),(2,.x),(5,.v)]
def o26 := O 28
def B26 (P : PT) : Y k10 := fun x1 x2 x5 H =>
  AC Tryz.prog T0 80 [(Value.int .u64 x1)] H (fun v1 H2 => lenK v1 (fun n4 => L2 P x1 x2 x5 v1 (n4 : Int) 0 H2))
theorem q26 P : Q o26 (E k1 (L2 P)) k10 (B26 P) := fun _ _ _ _ _ => by kernel_rfl
abbrev k11 : Sk := [(1,.i .u64),(2,.x)]
def o27 := O 6
def B27 (P : PT) : Y k11 := fun x1 x2 H =>
  B26 P x1 x2 (Value.slice none 0 0) H
theorem q27 P : Q o27 (E k10 (B26 P)) k11 (B27 P) := fun _ _ _ _ => by kernel_rfl
abbrev k12 : Sk := [(0,.g [.i,.v]),(1,.i .u64)]
def o28 := O 2
def B28 (P : PT) : Y k12 := fun x0a x0b x1 H =>
  newK H [(Value.int .i64 x0a), x0b] 31 (fun b1 H2 => B27 P x1 b1 H2)
theorem q28 P : Q o28 (E k11 (B27 P)) k12 (B28 P) := fun _ _ _ _ _ => by kernel_rfl
def code : Code := (.seq (R 0 o28) (.seq (R 1 o27) (.seq (.seq (R 2 o26) (.block 0 (.loop (.seq (R 3 o25) (.seq (.cond (.tmp 18) .skip (.exit 0)) (.seq (.block 1 (.seq (R 4 o24) (.seq (.seq (R 5 o23) (.cond (.tmp 28) (.exit 1) .skip)) (.seq (R 6 o22) (.seq (.seq (R 7 o21) (.block 2 (.loop (.seq (.seq (R 8 o20) (.cond (.tmp 35) .skip (.exit 2))) (.seq (.block 3 (.seq (.region 10 ⟨o19⟩ true) (.block 4 (.loop (.seq (R 11 o18) (.seq (.cond (.tmp 46) .skip (.exit 4)) (.seq (.block 5 (.seq (R 12 o17) (.seq (R 13 o16) (.block 6 (.loop (.seq (R 14 o15) (.seq (.cond (.tmp 53) .skip (.exit 6)) (.seq (.block 7 (.seq (R 15 o14) (.seq (R 16 o13) (.cond (.tmp 64) (.seq (R 17 o12) (R 18 o11)) .skip)))) (R 19 o10))))))))) (R 20 o8)))))))) (R 9 o6)))))) (R 21 o4)))))) (R 22 o3))))))) (.seq (R 23 o1) .ret))))
theorem body : Tryz.f162.body = some code := by kernel_rfl
theorem main (P : PT) : ∀ env H, (En 81 k12 (B28 P)) env H → AW Tryz.prog T0 code env H (M (ret P)) :=
  (r_seq (b (q28 P)) (r_seq (b (q27 P)) (r_seq (r_seq (b (q26 P)) (r_block (rL (l2 P) (fun N2 => (r_seq (b (q25 P N2)) (r_seq (r_cond rfl r_skip (r_exit (fun _ _ h => h))) (r_seq (r_block (r_seq (b (q24 P N2)) (r_seq (r_seq (b (q23 P N2)) (r_cond rfl (r_exit (fun _ _ h => h)) r_skip)) (r_seq (b (q22 P N2)) (r_seq (r_seq (b (q21 P N2)) (r_block (rL (l5 P N2) (fun N5 => (r_seq (r_seq (b (q20 P N2 N5)) (r_cond rfl r_skip (r_exit (fun _ _ h => h)))) (r_seq (r_block (r_seq (rD T0_ok mixed [(0, false), (1, false), (2, false), (3, false), (4, false), (5, false), (6, false), (7, false)] (by kernel_rfl) (q19 P N2 N5)) (r_block (rL (l7 P N2 N5) (fun N7 => (r_seq (b (q18 P N2 N5 N7)) (r_seq (r_cond rfl r_skip (r_exit (fun _ _ h => h))) (r_seq (r_block (r_seq (b (q17 P N2 N5 N7)) (r_seq (b (q16 P N2 N5 N7)) (r_block (rL (l9 P N2 N5 N7) (fun N9 => (r_seq (b (q15 P N2 N5 N7 N9)) (r_seq (r_cond rfl r_skip (r_exit (fun _ _ h => h))) (r_seq (r_block (r_seq (b (q14 P N2 N5 N7 N9)) (r_seq (b (q13 P N2 N5 N7 N9)) (r_cond rfl (r_seq (b (q12 P N2 N5 N7 N9)) (b (q11 P N2 N5 N7 N9))) r_skip)))) (b (q10 P N2 N5 N7 N9))))))))))) (b (q8 P N2 N5 N7)))))))))) (b (q6 P N2 N5)))))))) (b (q4 P N2))))))) (b (q3 P N2))))))))) (r_seq (b (q1 P)) r_ret))))
theorem ac (P : PT) (x0a : Int) (x0b : Value) (x1 : Int) (H : AHeap) (h : B28 P x0a x0b x1 H) : AC Tryz.prog T0 162 [(Value.agg ⟨[(Value.int .i64 x0a), x0b]⟩), (Value.int .u64 x1)] H P :=
  r_fn T0_ok (c := code) (n := 81) Tryz.func162 body (by kernel_rfl) (main P) (En_mk (x0a, x0b, x1, ()) (by kernel_rfl) ⟨by kernel_rfl, by kernel_rfl, trivial⟩ h)

end F162
namespace F163
abbrev E := En 134
abbrev Q := QB Tryz.prog T0 134
def O (k : Nat) := ob Tryz.f163 (pth k)
def ret (P : PT) : EP := retE T0 134 Tryz.f163 P
abbrev k0 : Sk := [(0,.v),(1,J),(2,J),(3,J),(8,.b),(9,.b)]
abbrev k1 : Sk := [(0,.v),(2,J),(3,J),(8,.b),(9,.b),(14,J)]
def o2 := O 3735547
def B2 (P : PT) (N1 : Y k0) : Y k1 := fun x0 x2 x3 x8 x9 x14 H =>
  N1 x0 (IntKind.i64.wrap (x14 + 1)) x2 x3 x8 x9 H
theorem q2 P N1 : Q o2 (E k0 N1) k1 (B2 P N1) := fun _ _ _ _ _ _ _ _ => by kernel_rfl
abbrev k2 : Sk := [(0,.v),(1,J),(2,J),(3,J),(8,.b),(9,.b),(14,J)]
def o3 := O 3735546
def B3 (P : PT) (N1 : Y k0) : Y k2 := fun x0 x1 x2 x3 x8 x9 x14 H =>
  AC Tryz.prog T0 163 [x0, (Value.int .i64 x1), (Value.int .i64 x14), (Value.int .i64 x3)] H (fun v1 H2 => asTup v1 (fun l3 => B2 P N1 x0 x2 x3 x8 x9 x14 H2))
theorem q3 P N1 : Q o3 (E k1 (B2 P N1)) k2 (B3 P N1) := fun _ _ _ _ _ _ _ _ _ => by kernel_rfl
abbrev k3 : Sk := [(0,.v),(1,J),(2,J),(3,J),(9,.b),(14,J),(16,J),(18,J)]
def o4 := O 1867772
def B4 (P : PT) (N1 : Y k0) : Y k3 := fun x0 x1 x2 x3 x9 x14 x16 x18 H =>
  B3 P N1 x0 x1 x2 x3 (decide ((x16 : Int) ≥ x18)) x9 x14 H
theorem q4 P N1 : Q o4 (E k2 (B3 P N1)) k3 (B4 P N1) := fun _ _ _ _ _ _ _ _ _ _ => by kernel_rfl
abbrev k4 : Sk := [(0,.v),(1,J),(3,J),(8,.b),(9,.b),(14,J)]
def o5 := O 3735551
def B5 (P : PT) (N1 : Y k0) : Y k4 := fun x0 x1 x3 x8 x9 x14 H =>
  N1 x0 x1 x14 x3 x8 x9 H
theorem q5 P N1 : Q o5 (E k0 N1) k4 (B5 P N1) := fun _ _ _ _ _ _ _ _ => by kernel_rfl
def o6 := O 3735550
def B6 (P : PT) (N1 : Y k0) : Y k2 := fun x0 x1 x2 x3 x8 x9 x14 H =>
  AC Tryz.prog T0 163 [x0, (Value.int .i64 (IntKind.i64.wrap (x14 + 1))), (Value.int .i64 x2), (Value.int .i64 x3)] H (fun v1 H2 => asTup v1 (fun l3 => B5 P N1 x0 x1 x3 x8 x9 x14 H2))
theorem q6 P N1 : Q o6 (E k4 (B5 P N1)) k2 (B6 P N1) := fun _ _ _ _ _ _ _ _ _ => by kernel_rfl
abbrev k5 : Sk := [(0,.v),(1,J),(2,J),(3,J),(9,.b),(14,J),(17,J),(18,J)]
def o7 := O 1867774
def B7 (P : PT) (N1 : Y k0) : Y k5 := fun x0 x1 x2 x3 x9 x14 x17 x18 H =>
  B6 P N1 x0 x1 x2 x3 (decide ((x17 : Int) ≥ x18)) x9 x14 H
theorem q7 P N1 : Q o7 (E k2 (B6 P N1)) k5 (B7 P N1) := fun _ _ _ _ _ _ _ _ _ _ => by kernel_rfl
abbrev k6 : Sk := [(0,.v),(1,J),(2,J),(3,J),(9,.b),(14,J),(16,J),(17,J),(18,J)]
def o8 := O 466942
def B8 (P : PT) (N1 : Y k0) : Y k6 := fun x0 x1 x2 x3 x9 x14 x16 x17 x18 H =>
  pif (decide ((x16 : Int) < x17)) (B4 P N1 x0 x1 x2 x3 x9 x14 x16 x18 H) (B7 P N1 x0 x1 x2 x3 x9 x14 x17 x18 H)
theorem q8 P N1 : Q o8 (cnd 113 (E k3 (B4 P N1)) (E k5 (B7 P N1))) k6 (B8 P N1) := fun _ _ _ _ _ _ _ _ _ _ _ => by kernel_rfl
abbrev k7 : Sk := [(0,.v),(1,J),(2,J),(3,J),(9,.b),(10,J),(14,J),(16,J),(17,J)]
def o9 := O 233470
def B9 (P : PT) (N1 : Y k0) : Y k7 := fun x0 x1 x2 x3 x9 x10 x14 x16 x17 H =>
  B8 P N1 x0 x1 x2 x3 x9 x14 x16 x17 (IntKind.i64.wrap (Int.tdiv x10 8)) H
theorem q9 P N1 : Q o9 (E k6 (B8 P N1)) k7 (B9 P N1) := fun _ _ _ _ _ _ _ _ _ _ _ => by kernel_rfl
abbrev k8 : Sk := [(0,.v),(1,J),(2,J),(3,J),(9,.b),(10,J),(14,J)]
def o10 := O 116734
def B10 (P : PT) (N1 : Y k0) : Y k8 := fun x0 x1 x2 x3 x9 x10 x14 H =>
  B9 P N1 x0 x1 x2 x3 x9 x10 x14 (IntKind.i64.wrap (x14 - x1)) (IntKind.i64.wrap (x2 - x14)) H
theorem q10 P N1 : Q o10 (E k7 (B9 P N1)) k8 (B10 P N1) := fun _ _ _ _ _ _ _ _ _ => by kernel_rfl
abbrev k9 : Sk := [(0,.v),(1,J),(2,J),(3,J),(10,J),(14,J),(15,.b)]
def o11 := O 58366
def B11 (P : PT) (N1 : Y k0) : Y k9 := fun x0 x1 x2 x3 x10 x14 x15 H =>
  B10 P N1 x0 x1 x2 x3 x15 x10 x14 H
theorem q11 P N1 : Q o11 (E k8 (B10 P N1)) k9 (B11 P N1) := fun _ _ _ _ _ _ _ _ _ => by kernel_rfl
abbrev k10 : Sk := [(0,.v),(1,J),(2,J),(3,J),(10,J),(11,J)]
def o12 := O 29182
def B12 (P : PT) (N1 : Y k0) : Y k10 := fun x0 x1 x2 x3 x10 x11 H =>
  AC Tryz.prog T0 200 [x0, (Value.int .i64 x1), (Value.int .i64 x2), (Value.int .i64 x11)] H (fun v1 H2 => tup2 v1 (fun v3 v4 => asI .i64 v3 (fun v5 => asB v4 (fun v6 => B11 P N1 x0 x1 x2 x3 x10 v5 v6 H2))))
theorem q12 P N1 : Q o12 (E k9 (B11 P N1)) k10 (B12 P N1) := fun _ _ _ _ _ _ _ _ => by kernel_rfl
abbrev k11 : Sk := [(0,.v),(2,J),(3,J),(8,.b),(9,.b),(13,J)]
def o13 := O 233450
def B13 (P : PT) (N1 : Y k0) : Y k11 := fun x0 x2 x3 x8 x9 x13 H =>
  N1 x0 x13 x2 x3 x8 x9 H
theorem q13 P N1 : Q o13 (E k0 N1) k11 (B13 P N1) := fun _ _ _ _ _ _ _ _ => by kernel_rfl
abbrev k12 : Sk := [(0,.v),(1,J),(2,J),(3,J),(8,.b),(9,.b),(11,J)]
def o14 := O 116724
def B14 (P : PT) (N1 : Y k0) : Y k12 := fun x0 x1 x2 x3 x8 x9 x11 H =>
  AC Tryz.prog T0 199 [x0, (Value.int .i64 x1), (Value.int .i64 x2), (Value.int .i64 x11)] H (fun v1 H2 => asI .i64 v1 (fun v3 => B13 P N1 x0 x2 x3 x8 x9 v3 H2))
theorem q14 P N1 : Q o14 (E k11 (B13 P N1)) k12 (B14 P N1) := fun _ _ _ _ _ _ _ _ _ => by kernel_rfl
abbrev k13 : Sk := [(0,.v),(1,J),(2,J),(3,J),(8,.b),(9,.b),(10,J),(11,J)]
def o15 := O 29180
def B15 (P : PT) (N1 : Y k0) : Y k13 := fun x0 x1 x2 x3 x8 x9 x10 x11 H =>
  pif (decide ((x1 : Int) > 0)) (idxK x0 (IntKind.i64.wrap (x1 - 1)) 1 (fun b1 o2 => ldI .i64 H b1 o2 (fun v3 => idxK x0 x11 1 (fun b4 o5 => ldI .i64 H b4 o5 (fun v6 => AC Tryz.prog T0 198 [(Value.int .i64 v3), (Value.int .i64 v6)] H (fun v7 H8 => asB v7 (fun v9 => pif (!v9) (B14 P N1 x0 x1 x2 x3 x8 x9 x11 H8) (B12 P N1 x0 x1 x2 x3 x10 x11 H8)))))))) (B12 P N1 x0 x1 x2 x3 x10 x11 H)
theorem q15 (P : PT) (N1 : Y k0) : QD Tryz.prog T0 134 o15 [(0, false), (1, false), (2, false), (3, false), (4, false), (5, false), (6, false), (7, false), (8, false), (9, false), (10, false), (11, false), (12, false), (13, false), (14, false)] (cnd 87 (En 134 k12 (B14 P N1)) (En 134 k10 (B12 P N1))) k13 (B15 P N1) := fun _ _ _ _ _ _ _ _ _ _  => by kernel_rfl
def o16 := O 58356
def B16 (P : PT) (N1 : Y k0) : Y k13 := fun x0 x1 x2 x3 x8 x9 x10 x11 H =>
  AC Tryz.prog T0 197 [x0, (Value.int .i64 x1), (Value.int .i64 x2)] H (fun v1 H2 => asB v1 (fun v3 => pif v3 (P (Value.tuple ⟨[]⟩) H2) (B15 P N1 x0 x1 x2 x3 x8 x9 x10 x11 H2)))
theorem q16 P N1 : Q o16 (cnd 72 (ret P) (E k13 (B15 P N1))) k13 (B16 P N1) := fun _ _ _ _ _ _ _ _ _ _ => by kernel_rfl
abbrev k14 : Sk := [(0,.v),(1,J),(2,J),(3,J),(8,.b),(9,.b),(10,J),(11,J),(12,J)]
def o17 := O 14588
def B17 (P : PT) (N1 : Y k0) : Y k14 := fun x0 x1 x2 x3 x8 x9 x10 x11 x12 H =>
  pif x8 (pif x9 (pif ((x12 : Int) == 1) (B16 P N1 x0 x1 x2 x3 x8 x9 x10 x11 H) (B15 P N1 x0 x1 x2 x3 x8 x9 x10 x11 H)) (B15 P N1 x0 x1 x2 x3 x8 x9 x10 x11 H)) (B15 P N1 x0 x1 x2 x3 x8 x9 x10 x11 H)
theorem q17 P N1 : Q o17 (cnd 68 (E k13 (B16 P N1)) (E k13 (B15 P N1))) k14 (B17 P N1) := fun _ _ _ _ _ _ _ _ _ _ _ => by kernel_rfl
def o18 := O 58347
def B18 (P : PT) (N1 : Y k0) : Y k13 := fun x0 x1 x2 x3 x8 x9 x10 x11 H =>
  B17 P N1 x0 x1 x2 x3 x8 x9 x10 x11 1 H
theorem q18 P N1 : Q o18 (E k14 (B17 P N1)) k13 (B18 P N1) := fun _ _ _ _ _ _ _ _ _ _ => by kernel_rfl
def o19 := O 58346
def B19 (P : PT) (N1 : Y k0) : Y k13 := fun x0 x1 x2 x3 x8 x9 x10 x11 H =>
  B18 P N1 x0 x1 x2 x3 x8 x9 x10 (IntKind.i64.wrap ((IntKind.i64.wrap (x2 - 1)) - (IntKind.i64.wrap (x11 - x1)))) H
theorem q19 P N1 : Q o19 (E k13 (B18 P N1)) k13 (B19 P N1) := fun _ _ _ _ _ _ _ _ _ _ => by kernel_rfl
def o20 := O 29172
def B20 (P : PT) (N1 : Y k0) : Y k13 := fun x0 x1 x2 x3 x8 x9 x10 x11 H =>
  AC Tryz.prog T0 196 [x0, (Value.int .i64 x1), (Value.int .i64 x2)] H (fun v1 H2 => asTup v1 (fun l3 => B19 P N1 x0 x1 x2 x3 x8 x9 x10 x11 H2))
theorem q20 P N1 : Q o20 (E k13 (B19 P N1)) k13 (B20 P N1) := fun _ _ _ _ _ _ _ _ _ _ => by kernel_rfl
def o21 := O 7292
def B21 (P : PT) (N1 : Y k0) : Y k14 := fun x0 x1 x2 x3 x8 x9 x10 x11 x12 H =>
  pif ((x12 : Int) == 2) (B20 P N1 x0 x1 x2 x3 x8 x9 x10 x11 H) (B17 P N1 x0 x1 x2 x3 x8 x9 x10 x11 x12 H)
theorem q21 P N1 : Q o21 (cnd 50 (E k13 (B20 P N1)) (E k14 (B17 P N1))) k14 (B21 P N1) := fun _ _ _ _ _ _ _ _ _ _ _ => by kernel_rfl
abbrev k15 : Sk := [(0,.v),(1,J),(2,J),(3,J),(8,.b),(9,.b),(10,J)]
def o22 := O 1822
def B22 (P : PT) (N1 : Y k0) : Y k15 := fun x0 x1 x2 x3 x8 x9 x10 H =>
  AC Tryz.prog T0 195 [x0, (Value.int .i64 x1), (Value.int .i64 x2)] H (fun v1 H2 => tup2 v1 (fun v3 v4 => asI .i64 v3 (fun v5 => asI .i64 v4 (fun v6 => B21 P N1 x0 x1 x2 x3 x8 x9 x10 v5 v6 H2))))
theorem q22 P N1 : Q o22 (E k14 (B21 P N1)) k15 (B22 P N1) := fun _ _ _ _ _ _ _ _ _ => by kernel_rfl
def o23 := O 7285
def B23 (P : PT) (N1 : Y k0) : Y k15 := fun x0 x1 x2 x3 x8 x9 x10 H =>
  B22 P N1 x0 x1 x2 (IntKind.i64.wrap (x3 - 1)) x8 x9 x10 H
theorem q23 P N1 : Q o23 (E k15 (B22 P N1)) k15 (B23 P N1) := fun _ _ _ _ _ _ _ _ _ => by kernel_rfl
def o24 := O 7284
def B24 (P : PT) (N1 : Y k0) : Y k15 := fun x0 x1 x2 x3 x8 x9 x10 H =>
  AC Tryz.prog T0 194 [x0, (Value.int .i64 x1), (Value.int .i64 x2)] H (fun v1 H2 => asTup v1 (fun l3 => B23 P N1 x0 x1 x2 x3 x8 x9 x10 H2))
theorem q24 P N1 : Q o24 (E k15 (B23 P N1)) k15 (B24 P N1) := fun _ _ _ _ _ _ _ _ _ => by kernel_rfl
def o25 := O 1820
def B25 (P : PT) (N1 : Y k0) : Y k15 := fun x0 x1 x2 x3 x8 x9 x10 H =>
  pif (!x8) (B24 P N1 x0 x1 x2 x3 x8 x9 x10 H) (B22 P N1 x0 x1 x2 x3 x8 x9 x10 H)
theorem q25 P N1 : Q o25 (cnd 35 (E k15 (B24 P N1)) (E k15 (B22 P N1))) k15 (B25 P N1) := fun _ _ _ _ _ _ _ _ _ => by kernel_rfl
abbrev k16 : Sk := [(0,.v),(1,J),(2,J)]
def o26 := O 3636
def B26 (P : PT) (N1 : Y k0) : Y k16 := fun x0 x1 x2 H =>
  AC Tryz.prog T0 193 [x0, (Value.int .i64 x1), (Value.int .i64 x2)] H (fun v1 H2 => asTup v1 (fun l3 => P (Value.tuple ⟨[]⟩) H2))
theorem q26 P N1 : Q o26 (ret P) k16 (B26 P N1) := fun _ _ _ _ _ => by kernel_rfl
def o27 := O 908
def B27 (P : PT) (N1 : Y k0) : Y k15 := fun x0 x1 x2 x3 x8 x9 x10 H =>
  pif ((x3 : Int) == 0) (B26 P N1 x0 x1 x2 H) (B25 P N1 x0 x1 x2 x3 x8 x9 x10 H)
theorem q27 P N1 : Q o27 (cnd 29 (E k16 (B26 P N1)) (E k15 (B25 P N1))) k15 (B27 P N1) := fun _ _ _ _ _ _ _ _ _ => by kernel_rfl
def o28 := O 1812
def B28 (P : PT) (N1 : Y k0) : Y k16 := fun x0 x1 x2 H =>
  AC Tryz.prog T0 192 [x0, (Value.int .i64 x1), (Value.int .i64 x2)] H (fun v1 H2 => asTup v1 (fun l3 => P (Value.tuple ⟨[]⟩) H2))
theorem q28 P N1 : Q o28 (ret P) k16 (B28 P N1) := fun _ _ _ _ _ => by kernel_rfl
def o29 := O 452
def B29 (P : PT) (N1 : Y k0) : Y k15 := fun x0 x1 x2 x3 x8 x9 x10 H =>
  pif (decide ((x10 : Int) ≤ 12)) (B28 P N1 x0 x1 x2 H) (B27 P N1 x0 x1 x2 x3 x8 x9 x10 H)
theorem q29 P N1 : Q o29 (cnd 23 (E k16 (B28 P N1)) (E k15 (B27 P N1))) k15 (B29 P N1) := fun _ _ _ _ _ _ _ _ _ => by kernel_rfl
def o30 := O 112
def B30 (P : PT) (N1 : Y k0) : Y k0 := fun x0 x1 x2 x3 x8 x9 H =>
  B29 P N1 x0 x1 x2 x3 x8 x9 (IntKind.i64.wrap (x2 - x1)) H
theorem q30 P N1 : Q o30 (E k15 (B29 P N1)) k0 (B30 P N1) := fun _ _ _ _ _ _ _ _ => by kernel_rfl
def L1 (P : PT) : Y k0 := fun x0 x1 x2 x3 x8 x9 H =>
  ∃ (I : Y k0) (μ : NTy k0 (AHeap → Nat)), I x0 x1 x2 x3 x8 x9 H ∧ ∀ y0 y1 y2 y3 y8 y9 G, I y0 y1 y2 y3 y8 y9 G → B30 P (fun z0 z1 z2 z3 z8 z9 G' => I z0 z1 z2 z3 z8 z9 G' ∧ μ z0 z1 z2 z3 z8 z9 G' < μ y0 y1 y2 y3 y8 y9 G) y0 y1 y2 y3 y8 y9 G
theorem l1 P : LQ k0 (L1 P) (B30 P) := fun ⟨_,_,_,_,_,_,_⟩ _ ⟨I, μ, h0, hI⟩ => ⟨apT _ I, apT _ μ, h0, fun ⟨_,_,_,_,_,_,_⟩ _ h => hI _ _ _ _ _ _ _  h⟩
abbrev k17 : Sk := [(0,.v),(1,J),(2,J),(3,J),(8,.b)]
def o31 := O 6
def B31 (P : PT) : Y k17 := fun x0 x1 x2 x3 x8 H =>
  L1 P x0 x1 x2 x3 x8 true H
theorem q31 P : Q o31 (E k0 (L1 P)) k17 (B31 P) := fun _ _ _ _ _ _ _ => by kernel_rfl
abbrev k18 : Sk := [(0,.v),(1,J),(2,J),(3,J)]
def o32 := O 2
def B32 (P : PT) : Y k18 := fun x0 x1 x2 x3 H =>
  B31 P x0 x1 x2 x3 true H
theorem q32 P : Q o32 (E k17 (B31 P)) k18 (B32 P) := fun _ _ _ _ _ _ => by kernel_rfl
def code : Code := (.seq (R 0 o32) (.seq (R 1 o31) (.block 0 (.loop (.block 1 (.seq (R 2 o30) (.seq (.seq (R 3 o29) (.cond (.tmp 23) (.seq (R 4 o28) .ret) .skip)) (.seq (.seq (R 5 o27) (.cond (.tmp 29) (.seq (R 6 o26) .ret) .skip)) (.seq (.seq (R 7 o25) (.cond (.tmp 35) (.seq (R 8 o24) (R 9 o23)) .skip)) (.seq (R 10 o22) (.seq (.seq (R 11 o21) (.cond (.tmp 50) (.seq (R 12 o20) (.seq (R 13 o19) (R 14 o18))) .skip)) (.seq (.seq (R 15 o17) (.cond (.tmp 68) (.seq (R 16 o16) (.cond (.tmp 72) .ret .skip)) .skip)) (.seq (.seq (.region 17 ⟨o15⟩ true) (.cond (.tmp 87) (.seq (R 18 o14) (.seq (R 19 o13) (.exit 1))) .skip)) (.seq (R 20 o12) (.seq (R 21 o11) (.seq (R 22 o10) (.seq (R 23 o9) (.seq (R 24 o8) (.cond (.tmp 113) (.seq (R 25 o4) (.seq (R 26 o3) (R 27 o2))) (.seq (R 28 o7) (.seq (R 29 o6) (R 30 o5))))))))))))))))))))))
theorem body : Tryz.f163.body = some code := by kernel_rfl
theorem main (P : PT) : ∀ env H, (En 134 k18 (B32 P)) env H → AW Tryz.prog T0 code env H (M (ret P)) :=
  (r_seq (b (q32 P)) (r_seq (b (q31 P)) (r_block (rL (l1 P) (fun N1 => (r_block (r_seq (b (q30 P N1)) (r_seq (r_seq (b (q29 P N1)) (r_cond rfl (r_seq (b (q28 P N1)) r_ret) r_skip)) (r_seq (r_seq (b (q27 P N1)) (r_cond rfl (r_seq (b (q26 P N1)) r_ret) r_skip)) (r_seq (r_seq (b (q25 P N1)) (r_cond rfl (r_seq (b (q24 P N1)) (b (q23 P N1))) r_skip)) (r_seq (b (q22 P N1)) (r_seq (r_seq (b (q21 P N1)) (r_cond rfl (r_seq (b (q20 P N1)) (r_seq (b (q19 P N1)) (b (q18 P N1)))) r_skip)) (r_seq (r_seq (b (q17 P N1)) (r_cond rfl (r_seq (b (q16 P N1)) (r_cond rfl r_ret r_skip)) r_skip)) (r_seq (r_seq (rD T0_ok mixed [(0, false), (1, false), (2, false), (3, false), (4, false), (5, false), (6, false), (7, false), (8, false), (9, false), (10, false), (11, false), (12, false), (13, false), (14, false)] (by kernel_rfl) (q15 P N1)) (r_cond rfl (r_seq (b (q14 P N1)) (r_seq (b (q13 P N1)) (r_exit (fun _ _ h => h)))) r_skip)) (r_seq (b (q12 P N1)) (r_seq (b (q11 P N1)) (r_seq (b (q10 P N1)) (r_seq (b (q9 P N1)) (r_seq (b (q8 P N1)) (r_cond rfl (r_seq (b (q4 P N1)) (r_seq (b (q3 P N1)) (b (q2 P N1)))) (r_seq (b (q7 P N1)) (r_seq (b (q6 P N1)) (b (q5 P N1))))))))))))))))))))))))
theorem ac (P : PT) (x0 : Value) (x1 x2 x3 : Int) (H : AHeap) (h : B32 P x0 x1 x2 x3 H) : AC Tryz.prog T0 163 [x0, (Value.int .i64 x1), (Value.int .i64 x2), (Value.int .i64 x3)] H P :=
  r_fn T0_ok (c := code) (n := 134) Tryz.func163 body (by kernel_rfl) (main P) (En_mk (x0, x1, x2, x3, ()) (by kernel_rfl) ⟨by kernel_rfl, by kernel_rfl, by kernel_rfl, by kernel_rfl, trivial⟩ h)

end F163
namespace F164
abbrev E := En 8
abbrev Q := QB Tryz.prog T0 8
def O (k : Nat) := ob Tryz.f164 (pth k)
def ret (P : PT) : EP := retE T0 8 Tryz.f164 P
abbrev k0 : Sk := [(0,.i .u64)]
def o1 := O 14
def B1 (P : PT) : Y k0 := fun x0 H =>
  AC Tryz.prog T0 202 [(Value.int .u64 x0)] H (fun v1 H2 => asI .i64 v1 (fun v3 => P (Value.int .i64 v3) H2))
theorem q1 P : Q o1 (ret P) k0 (B1 P) := fun _ _ _ => by kernel_rfl
def o2 := O 2
def B2 (P : PT) : Y k0 := fun x0 H =>
  B1 P x0 H
theorem q2 P : Q o2 (E k0 (B1 P)) k0 (B2 P) := fun _ _ _ => by kernel_rfl
def code : Code := (.seq (R 0 o2) (.seq (.cond (.const (.bool false)) (codeAt (bodyOf Tryz.f164) [.r,.l,.l]) .skip) (.seq (R 2 o1) .ret)))
theorem body : Tryz.f164.body = some code := by kernel_rfl
theorem main (P : PT) : ∀ env H, (En 8 k0 (B2 P)) env H → AW Tryz.prog T0 code env H (M (ret P)) :=
  (r_seq (b (q2 P)) (r_seq (r_condF r_skip) (r_seq (b (q1 P)) r_ret)))
theorem ac (P : PT) (x0 : Int) (H : AHeap) (h : B2 P x0 H) : AC Tryz.prog T0 164 [(Value.int .u64 x0)] H P :=
  r_fn T0_ok (c := code) (n := 8) Tryz.func164 body (by kernel_rfl) (main P) (En_mk (x0, ()) (by kernel_rfl) ⟨by kernel_rfl, trivial⟩ h)

end F164
namespace F165
abbrev E := En 22
abbrev Q := QB Tryz.prog T0 22
def O (k : Nat) := ob Tryz.f165 (pth k)
def ret (P : PT) : EP := retE T0 22 Tryz.f165 P
abbrev k0 : Sk := [(1,J),(2,J),(3,.x)]
def o1 := O 6
def B1 (P : PT) : Y k0 := fun x1 x2 x3 H =>
  ld1 H x3 1 (fun v1 => idxK v1 x1 2 (fun b2 o3 => ldI .i64 H b2 o3 (fun v4 => ld1 H x3 1 (fun v5 => idxK v5 x1 2 (fun b6 o7 => ldI .i64 H b6 (o7 + 1) (fun v8 => P (Value.int .i64 (IntKind.i64.wrap ((IntKind.i64.wrap (v4 + v8)) - x2))) H))))))
theorem q1 (P : PT) : QD Tryz.prog T0 22 o1 [(0, false), (1, false), (2, false), (3, false), (4, false), (5, false), (6, false), (7, false), (8, false), (9, false), (10, false), (11, false), (12, false), (13, false), (14, false), (15, false)] (ret P) k0 (B1 P) := fun _ _ _ _ _  => by kernel_rfl
abbrev k1 : Sk := [(0,.g [.i,.v]),(1,J),(2,J)]
def o2 := O 2
def B2 (P : PT) : Y k1 := fun x0a x0b x1 x2 H =>
  newK H [(Value.int .i64 x0a), x0b] 31 (fun b1 H2 => B1 P x1 x2 b1 H2)
theorem q2 P : Q o2 (E k0 (B1 P)) k1 (B2 P) := fun _ _ _ _ _ _ => by kernel_rfl
def code : Code := (.seq (R 0 o2) (.seq (.region 1 ⟨o1⟩ true) .ret))
theorem body : Tryz.f165.body = some code := by kernel_rfl
theorem main (P : PT) : ∀ env H, (En 22 k1 (B2 P)) env H → AW Tryz.prog T0 code env H (M (ret P)) :=
  (r_seq (b (q2 P)) (r_seq (rD T0_ok mixed [(0, false), (1, false), (2, false), (3, false), (4, false), (5, false), (6, false), (7, false), (8, false), (9, false), (10, false), (11, false), (12, false), (13, false), (14, false), (15, false)] (by kernel_rfl) (q1 P)) r_ret))
theorem ac (P : PT) (x0a : Int) (x0b : Value) (x1 x2 : Int) (H : AHeap) (h : B2 P x0a x0b x1 x2 H) : AC Tryz.prog T0 165 [(Value.agg ⟨[(Value.int .i64 x0a), x0b]⟩), (Value.int .i64 x1), (Value.int .i64 x2)] H P :=
  r_fn T0_ok (c := code) (n := 22) Tryz.func165 body (by kernel_rfl) (main P) (En_mk (x0a, x0b, x1, x2, ()) (by kernel_rfl) ⟨by kernel_rfl, by kernel_rfl, by kernel_rfl, trivial⟩ h)

end F165
namespace F166
abbrev E := En 59
abbrev Q := QB Tryz.prog T0 59
def O (k : Nat) := ob Tryz.f166 (pth k)
def ret (P : PT) : EP := retE T0 59 Tryz.f166 P
abbrev k0 : Sk := []
def o1 := O 62
def B1 (P : PT) : Y k0 := fun H =>
  P (Value.bool false) H
theorem q1 P : Q o1 (ret P) k0 (B1 P) := fun _ _ => by kernel_rfl
abbrev k1 : Sk := [(0,.i .u64),(1,.i .u64),(2,.v),(4,.v),(8,J),(26,.v),(27,J),(28,J)]
def o3 := O 1959
def B3 (P : PT) (N2 : Y k1) : Y k1 := fun x0 x1 x2 x4 x8 x26 x27 x28 H =>
  N2 x0 x1 x2 x4 x8 x26 x27 (IntKind.i64.wrap (x28 + 1)) H
theorem q3 P N2 : Q o3 (E k1 N2) k1 (B3 P N2) := fun _ _ _ _ _ _ _ _ _ _ => by kernel_rfl
def o4 := O 125340
def B4 (P : PT) (N2 : Y k1) : Y k0 := fun H =>
  P (Value.bool true) H
theorem q4 P N2 : Q o4 (ret P) k0 (B4 P N2) := fun _ _ => by kernel_rfl
abbrev k2 : Sk := [(0,.i .u64),(1,.i .u64),(2,.v),(4,.v),(8,J),(10,J),(11,J),(26,.v),(27,J),(28,J)]
def o5 := O 31334
def B5 (P : PT) (N2 : Y k1) : Y k2 := fun x0 x1 x2 x4 x8 x10 x11 x26 x27 x28 H =>
  AC Tryz.prog T0 144 [(Value.int .u64 x1), (Value.int .i64 x11)] H (fun v1 H2 => asB v1 (fun v3 => pif (!v3) (asP x4 (fun b4 o5 => ld1 H2 b4 o5 (fun v6 => ((0 : Int) ≤ x10) ∧ (((0 : Int) ≤ x8) ∧ (((0 : Int) ≤ x11) ∧ (callV Tryz.prog T0 v6 [(Value.int .u64 (IntKind.u64.wrap (BitVec.ofInt 64 x0 ||| BitVec.ofInt 64 (IntKind.u64.wrap (1 * 2 ^ (min (Int.toNat x10) 64)))).toNat)), (Value.int .u64 (IntKind.u64.wrap (BitVec.ofInt 64 (IntKind.u64.wrap (BitVec.ofInt 64 x1 ||| BitVec.ofInt 64 (IntKind.u64.wrap (1 * 2 ^ (min (Int.toNat x8) 64)))).toNat) ||| BitVec.ofInt 64 (IntKind.u64.wrap (1 * 2 ^ (min (Int.toNat x11) 64)))).toNat))] H2 (fun v7 H8 => asB v7 (fun v9 => pif v9 (B4 P N2 H8) (B3 P N2 x0 x1 x2 x4 x8 x26 x27 x28 H8))))))))) (B3 P N2 x0 x1 x2 x4 x8 x26 x27 x28 H2)))
theorem q5 (P : PT) (N2 : Y k1) : QD Tryz.prog T0 59 o5 [(0, false), (1, false), (2, false), (3, false), (4, false), (5, false), (6, false), (7, false), (8, false), (9, false), (10, false), (11, false), (12, false), (13, false), (14, false), (15, false), (16, false), (17, false), (18, false)] (cnd 57 (En 59 k0 (B4 P N2)) (En 59 k1 (B3 P N2))) k2 (B5 P N2) := fun _ _ _ _ _ _ _ _ _ _ _ _  => by kernel_rfl
abbrev k3 : Sk := [(0,.i .u64),(1,.i .u64),(2,.v),(4,.v),(8,J),(10,J),(26,.v),(27,J),(28,J)]
def o6 := O 15666
def B6 (P : PT) (N2 : Y k1) : Y k3 := fun x0 x1 x2 x4 x8 x10 x26 x27 x28 H =>
  asP x2 (fun b1 o2 => ld1 H b1 (o2 + 1) (fun v3 => idxK v3 x10 2 (fun b4 o5 => ldI .i64 H b4 o5 (fun v6 => ldI .i64 H b4 (o5 + 1) (fun v7 => AC Tryz.prog T0 168 [(Value.agg ⟨[(Value.int .i64 v6), (Value.int .i64 v7)]⟩), (Value.int .i64 x8)] H (fun v8 H9 => asI .i64 v8 (fun v10 => B5 P N2 x0 x1 x2 x4 x8 x10 v10 x26 x27 x28 H9)))))))
theorem q6 P N2 : Q o6 (E k2 (B5 P N2)) k3 (B6 P N2) := fun _ _ _ _ _ _ _ _ _ _ _ => by kernel_rfl
def o7 := O 7832
def B7 (P : PT) (N2 : Y k1) : Y k1 := fun x0 x1 x2 x4 x8 x26 x27 x28 H =>
  idxK x26 x28 1 (fun b1 o2 => ldI .i64 H b1 o2 (fun v3 => B6 P N2 x0 x1 x2 x4 x8 v3 x26 x27 x28 H))
theorem q7 P N2 : Q o7 (E k3 (B6 P N2)) k1 (B7 P N2) := fun _ _ _ _ _ _ _ _ _ _ => by kernel_rfl
def o8 := O 488
def B8 (P : PT) (N2 : Y k1) : Y k1 := fun x0 x1 x2 x4 x8 x26 x27 x28 H =>
  pif (decide ((x28 : Int) < x27)) (B7 P N2 x0 x1 x2 x4 x8 x26 x27 x28 H) (B1 P H)
theorem q8 P N2 : Q o8 (cnd 29 (E k1 (B7 P N2)) (E k0 (B1 P))) k1 (B8 P N2) := fun _ _ _ _ _ _ _ _ _ _ => by kernel_rfl
def L2 (P : PT) : Y k1 := fun x0 x1 x2 x4 x8 x26 x27 x28 H =>
  ∃ (I : Y k1) (μ : NTy k1 (AHeap → Nat)), I x0 x1 x2 x4 x8 x26 x27 x28 H ∧ ∀ y0 y1 y2 y4 y8 y26 y27 y28 G, I y0 y1 y2 y4 y8 y26 y27 y28 G → B8 P (fun z0 z1 z2 z4 z8 z26 z27 z28 G' => I z0 z1 z2 z4 z8 z26 z27 z28 G' ∧ μ z0 z1 z2 z4 z8 z26 z27 z28 G' < μ y0 y1 y2 y4 y8 y26 y27 y28 G) y0 y1 y2 y4 y8 y26 y27 y28 G
theorem l2 P : LQ k1 (L2 P) (B8 P) := fun ⟨_,_,_,_,_,_,_,_,_⟩ _ ⟨I, μ, h0, hI⟩ => ⟨apT _ I, apT _ μ, h0, fun ⟨_,_,_,_,_,_,_,_,_⟩ _ h => hI _ _ _ _ _ _ _ _ _  h⟩
abbrev k4 : Sk := [(0,.i .u64),(1,.i .u64),(2,.v),(4,.v),(8,J)]
def o9 := O 60
def B9 (P : PT) : Y k4 := fun x0 x1 x2 x4 x8 H =>
  asP x2 (fun b1 o2 => ldI .i64 H b1 o2 (fun v3 => ld1 H b1 (o2 + 1) (fun v4 => AC Tryz.prog T0 112 [(Value.agg ⟨[(Value.int .i64 v3), v4]⟩), (Value.int .i64 x8)] H (fun v5 H6 => lenK v5 (fun n8 => L2 P x0 x1 x2 x4 x8 v5 (n8 : Int) 0 H6)))))
theorem q9 P : Q o9 (E k1 (L2 P)) k4 (B9 P) := fun _ _ _ _ _ _ _ => by kernel_rfl
abbrev k5 : Sk := [(0,.i .u64),(1,.i .u64),(2,.v),(4,.v)]
def o10 := O 14
def B10 (P : PT) : Y k5 := fun x0 x1 x2 x4 H =>
  AC Tryz.prog T0 167 [(Value.int .u64 (IntKind.u64.wrap (BitVec.ofInt 64 18446744073709551615 ^^^ BitVec.ofInt 64 x1).toNat))] H (fun v1 H2 => asI .i64 v1 (fun v3 => B9 P x0 x1 x2 x4 v3 H2))
theorem q10 P : Q o10 (E k4 (B9 P)) k5 (B10 P) := fun _ _ _ _ _ _ => by kernel_rfl
abbrev k6 : Sk := [(0,.i .u64),(3,.v)]
def o11 := O 52
def B11 (P : PT) : Y k6 := fun x0 x3 H =>
  asP x3 (fun b1 o2 => ld1 H b1 o2 (fun v3 => callV Tryz.prog T0 v3 [(Value.int .u64 x0)] H (fun v4 H5 => asB v4 (fun v6 => P (Value.bool v6) H5))))
theorem q11 P : Q o11 (ret P) k6 (B11 P) := fun _ _ _ _ => by kernel_rfl
abbrev k7 : Sk := [(0,.i .u64),(1,.i .u64),(2,.v),(3,.v),(4,.v)]
def o12 := O 12
def B12 (P : PT) : Y k7 := fun x0 x1 x2 x3 x4 H =>
  asP x2 (fun b1 o2 => ldI .i64 H b1 o2 (fun v3 => ((0 : Int) ≤ v3) ∧ (pif ((x1 : Int) == (IntKind.u64.wrap ((IntKind.u64.wrap (1 * 2 ^ (min (Int.toNat v3) 64))) - 1))) (B11 P x0 x3 H) (B10 P x0 x1 x2 x4 H))))
theorem q12 P : Q o12 (cnd 17 (E k6 (B11 P)) (E k5 (B10 P))) k7 (B12 P) := fun _ _ _ _ _ _ _ => by kernel_rfl
def o13 := O 2
def B13 (P : PT) : Y k7 := fun x0 x1 x2 x3 x4 H =>
  B12 P x0 x1 x2 x3 x4 H
theorem q13 P : Q o13 (E k7 (B12 P)) k7 (B13 P) := fun _ _ _ _ _ _ _ => by kernel_rfl
def code : Code := (.seq (R 0 o13) (.seq (.seq (R 1 o12) (.cond (.tmp 17) (.seq (R 2 o11) .ret) .skip)) (.seq (R 3 o10) (.seq (.seq (R 4 o9) (.block 0 (.loop (.seq (R 5 o8) (.seq (.cond (.tmp 29) .skip (.exit 0)) (.seq (.block 1 (.seq (R 6 o7) (.seq (R 7 o6) (.seq (.region 8 ⟨o5⟩ true) (.cond (.tmp 57) (.seq (R 9 o4) .ret) .skip))))) (R 10 o3))))))) (.seq (R 11 o1) .ret)))))
theorem body : Tryz.f166.body = some code := by kernel_rfl
theorem main (P : PT) : ∀ env H, (En 59 k7 (B13 P)) env H → AW Tryz.prog T0 code env H (M (ret P)) :=
  (r_seq (b (q13 P)) (r_seq (r_seq (b (q12 P)) (r_cond rfl (r_seq (b (q11 P)) r_ret) r_skip)) (r_seq (b (q10 P)) (r_seq (r_seq (b (q9 P)) (r_block (rL (l2 P) (fun N2 => (r_seq (b (q8 P N2)) (r_seq (r_cond rfl r_skip (r_exit (fun _ _ h => h))) (r_seq (r_block (r_seq (b (q7 P N2)) (r_seq (b (q6 P N2)) (r_seq (rD T0_ok mixed [(0, false), (1, false), (2, false), (3, false), (4, false), (5, false), (6, false), (7, false), (8, false), (9, false), (10, false), (11, false), (12, false), (13, false), (14, false), (15, false), (16, false), (17, false), (18, false)] (by kernel_rfl) (q5 P N2)) (r_cond rfl (r_seq (b (q4 P N2)) r_ret) r_skip))))) (b (q3 P N2))))))))) (r_seq (b (q1 P)) r_ret)))))
theorem ac (P : PT) (x0 x1 : Int) (x2 x3 x4 : Value) (H : AHeap) (h : B13 P x0 x1 x2 x3 x4 H) : AC Tryz.prog T0 166 [(Value.int .u64 x0), (Value.int .u64 x1), x2, x3, x4] H P :=
  r_fn T0_ok (c := code) (n := 59) Tryz.func166 body (by kernel_rfl) (main P) (En_mk (x0, x1, x2, x3, x4, ()) (by kernel_rfl) ⟨by kernel_rfl, by kernel_rfl, by kernel_rfl, by kernel_rfl, by kernel_rfl, trivial⟩ h)

end F166
namespace F167
abbrev E := En 14
abbrev Q := QB Tryz.prog T0 14
def O (k : Nat) := ob Tryz.f167 (pth k)
def ret (P : PT) : EP := retE T0 14 Tryz.f167 P
abbrev k0 : Sk := [(0,.i .u64)]
def o1 := O 14
def B1 (P : PT) : Y k0 := fun x0 H =>
  ((0 : Int) ≤ 58) ∧ (bndK (Int.fdiv (IntKind.u64.wrap ((IntKind.u64.wrap (BitVec.ofInt 64 x0 &&& BitVec.ofInt 64 (IntKind.u64.wrap (0 - x0))).toNat) * 285870213051353865)) (2 ^ (min (Int.toNat 58) 64))) 64 (ldI .u8 H 0 (offAt 0 (Int.fdiv (IntKind.u64.wrap ((IntKind.u64.wrap (BitVec.ofInt 64 x0 &&& BitVec.ofInt 64 (IntKind.u64.wrap (0 - x0))).toNat) * 285870213051353865)) (2 ^ (min (Int.toNat 58) 64))) 1) (fun v1 => P (Value.int .i64 (IntKind.i64.wrap v1)) H)))
theorem p1 (u : Nat → Value) (x0 : Int) (H : AHeap) (Q : EP) : aOps Tryz.prog T0 o1 (o1.take 6) [.int .u64 x0, u 1, u 2, u 3, u 4, u 5, u 6, u 7, u 8, u 9, u 10, u 11, u 12, u 13] H Q = ((0 : Int) ≤ 58 ∧ Q [.int .u64 x0, u 1, u 2, u 3, u 4, .int .u64 x0, .int .u64 x0, .int .u64 (IntKind.u64.wrap (0 - x0)), .int .u64 (IntKind.u64.wrap (BitVec.ofInt 64 x0 &&& BitVec.ofInt 64 (IntKind.u64.wrap (0 - x0))).toNat), .int .u64 (IntKind.u64.wrap ((IntKind.u64.wrap (BitVec.ofInt 64 x0 &&& BitVec.ofInt 64 (IntKind.u64.wrap (0 - x0))).toNat) * 285870213051353865)), .int .u64 (Int.fdiv (IntKind.u64.wrap ((IntKind.u64.wrap (BitVec.ofInt 64 x0 &&& BitVec.ofInt 64 (IntKind.u64.wrap (0 - x0))).toNat) * 285870213051353865)) (2 ^ (min (Int.toNat 58) 64))), u 11, u 12, u 13] H) := by kernel_rfl
theorem p2 (P : PT) (u : Nat → Value) (a b c d e : Value) (n : Int) (H : AHeap) : aOps Tryz.prog T0 o1 (o1.drop 6) [a, u 1, u 2, u 3, u 4, a, b, c, d, e, .int .u64 n, u 11, u 12, u 13] H (ret P) = bndK n 64 (ldI .u8 H 0 (offAt 0 n 1) (fun v1 => P (Value.int .i64 (IntKind.i64.wrap v1)) H)) := by kernel_rfl
theorem q1 P : Q o1 (ret P) k0 (B1 P) := fun u x0 H => (aOps_cut Tryz.prog T0 o1 o1 6 _ H _).trans ((p1 u x0 H _).trans (congrArg _ (p2 P u _ _ _ _ _ _ H)))
abbrev k1 : Sk := []
def o2 := O 52
def B2 (P : PT) : Y k1 := fun H =>
  P (Value.int .i64 64) H
theorem q2 P : Q o2 (ret P) k1 (B2 P) := fun _ _ => by kernel_rfl
def o3 := O 12
def B3 (P : PT) : Y k0 := fun x0 H =>
  pif ((x0 : Int) == 0) (B2 P H) (B1 P x0 H)
theorem q3 P : Q o3 (cnd 4 (E k1 (B2 P)) (E k0 (B1 P))) k0 (B3 P) := fun _ _ _ => by kernel_rfl
def o4 := O 2
def B4 (P : PT) : Y k0 := fun x0 H =>
  B3 P x0 H
theorem q4 P : Q o4 (E k0 (B3 P)) k0 (B4 P) := fun _ _ _ => by kernel_rfl
def code : Code := (.seq (R 0 o4) (.seq (.seq (R 1 o3) (.cond (.tmp 4) (.seq (R 2 o2) .ret) .skip)) (.seq (R 3 o1) .ret)))
theorem body : Tryz.f167.body = some code := by kernel_rfl
theorem main (P : PT) : ∀ env H, (En 14 k0 (B4 P)) env H → AW Tryz.prog T0 code env H (M (ret P)) :=
  (r_seq (b (q4 P)) (r_seq (r_seq (b (q3 P)) (r_cond rfl (r_seq (b (q2 P)) r_ret) r_skip)) (r_seq (b (q1 P)) r_ret)))
theorem ac (P : PT) (x0 : Int) (H : AHeap) (h : B4 P x0 H) : AC Tryz.prog T0 167 [(Value.int .u64 x0)] H P :=
  r_fn T0_ok (c := code) (n := 14) Tryz.func167 body (by kernel_rfl) (main P) (En_mk (x0, ()) (by kernel_rfl) ⟨by kernel_rfl, trivial⟩ h)

end F167
namespace F168
abbrev E := En 12
abbrev Q := QB Tryz.prog T0 12
def O (k : Nat) := ob Tryz.f168 (pth k)
def ret (P : PT) : EP := retE T0 12 Tryz.f168 P
abbrev k0 : Sk := [(1,J),(2,.x)]
def o1 := O 6
def B1 (P : PT) : Y k0 := fun x1 x2 H =>
  ldI .i64 H x2 0 (fun v1 => ldI .i64 H x2 1 (fun v2 => P (Value.int .i64 (IntKind.i64.wrap ((IntKind.i64.wrap (v1 + v2)) - x1))) H))
theorem q1 P : Q o1 (ret P) k0 (B1 P) := fun _ _ _ _ => by kernel_rfl
abbrev k1 : Sk := [(0,.g [.i,.i]),(1,J)]
def o2 := O 2
def B2 (P : PT) : Y k1 := fun x0a x0b x1 H =>
  newK H [(Value.int .i64 x0a), (Value.int .i64 x0b)] 28 (fun b1 H2 => B1 P x1 b1 H2)
theorem q2 P : Q o2 (E k0 (B1 P)) k1 (B2 P) := fun _ _ _ _ _ => by kernel_rfl
def code : Code := (.seq (R 0 o2) (.seq (R 1 o1) .ret))
theorem body : Tryz.f168.body = some code := by kernel_rfl
theorem main (P : PT) : ∀ env H, (En 12 k1 (B2 P)) env H → AW Tryz.prog T0 code env H (M (ret P)) :=
  (r_seq (b (q2 P)) (r_seq (b (q1 P)) r_ret))
theorem ac (P : PT) (x0a x0b x1 : Int) (H : AHeap) (h : B2 P x0a x0b x1 H) : AC Tryz.prog T0 168 [(Value.agg ⟨[(Value.int .i64 x0a), (Value.int .i64 x0b)]⟩), (Value.int .i64 x1)] H P :=
  r_fn T0_ok (c := code) (n := 12) Tryz.func168 body (by kernel_rfl) (main P) (En_mk (x0a, x0b, x1, ()) (by kernel_rfl) ⟨by kernel_rfl, by kernel_rfl, trivial⟩ h)

end F168
namespace F169
abbrev E := En 15
abbrev Q := QB Tryz.prog T0 15
def O (k : Nat) := ob Tryz.f169 (pth k)
def ret (P : PT) : EP := retE T0 15 Tryz.f169 P
abbrev k0 : Sk := [(1,J),(2,.x)]
def o1 := O 6
def B1 (P : PT) : Y k0 := fun x1 x2 H =>
  ldI .i64 H x2 0 (fun v1 => pif ((v1 : Int) == x1) (P (Value.bool true) H) (ldI .i64 H x2 1 (fun v2 => P (Value.bool ((v2 : Int) == x1)) H)))
theorem q1 P : Q o1 (ret P) k0 (B1 P) := fun _ _ _ _ => by kernel_rfl
abbrev k1 : Sk := [(0,.g [.i,.i]),(1,J)]
def o2 := O 2
def B2 (P : PT) : Y k1 := fun x0a x0b x1 H =>
  newK H [(Value.int .i64 x0a), (Value.int .i64 x0b)] 28 (fun b1 H2 => B1 P x1 b1 H2)
theorem q2 P : Q o2 (E k0 (B1 P)) k1 (B2 P) := fun _ _ _ _ _ => by kernel_rfl
def code : Code := (.seq (R 0 o2) (.seq (R 1 o1) .ret))
theorem body : Tryz.f169.body = some code := by kernel_rfl
theorem main (P : PT) : ∀ env H, (En 15 k1 (B2 P)) env H → AW Tryz.prog T0 code env H (M (ret P)) :=
  (r_seq (b (q2 P)) (r_seq (b (q1 P)) r_ret))
theorem ac (P : PT) (x0a x0b x1 : Int) (H : AHeap) (h : B2 P x0a x0b x1 H) : AC Tryz.prog T0 169 [(Value.agg ⟨[(Value.int .i64 x0a), (Value.int .i64 x0b)]⟩), (Value.int .i64 x1)] H P :=
  r_fn T0_ok (c := code) (n := 15) Tryz.func169 body (by kernel_rfl) (main P) (En_mk (x0a, x0b, x1, ()) (by kernel_rfl) ⟨by kernel_rfl, by kernel_rfl, trivial⟩ h)

end F169
namespace F172
abbrev E := En 19
abbrev Q := QB Tryz.prog T0 19
def O (k : Nat) := ob Tryz.f172 (pth k)
def ret (P : PT) : EP := retE T0 19 Tryz.f172 P
abbrev k0 : Sk := []
def o1 := O 14
def B1 (P : PT) : Y k0 := fun H =>
  P (Value.int .i64 (-1)) H
theorem q1 P : Q o1 (ret P) k0 (B1 P) := fun _ _ => by kernel_rfl
abbrev k1 : Sk := [(0,.v),(1,.v),(7,J),(8,J)]
def o3 := O 423
def B3 (P : PT) (N2 : Y k1) : Y k1 := fun x0 x1 x7 x8 H =>
  N2 x0 x1 x7 (IntKind.i64.wrap (x8 + 1)) H
theorem q3 P N2 : Q o3 (E k1 N2) k1 (B3 P N2) := fun _ _ _ _ _ _ => by kernel_rfl
abbrev k2 : Sk := [(5,J)]
def o4 := O 13516
def B4 (P : PT) (N2 : Y k1) : Y k2 := fun x5 H =>
  P (Value.int .i64 x5) H
theorem q4 P N2 : Q o4 (ret P) k2 (B4 P N2) := fun _ _ _ => by kernel_rfl
abbrev k3 : Sk := [(0,.v),(1,.v),(5,J),(7,J),(8,J)]
def o5 := O 3378
def B5 (P : PT) (N2 : Y k1) : Y k3 := fun x0 x1 x5 x7 x8 H =>
  idxK x0 x5 2 (fun b1 o2 => ldI .i64 H b1 o2 (fun v3 => ldI .i64 H b1 (o2 + 1) (fun v4 => callV Tryz.prog T0 x1 [(Value.agg ⟨[(Value.int .i64 v3), (Value.int .i64 v4)]⟩)] H (fun v5 H6 => asB v5 (fun v7 => pif v7 (B4 P N2 x5 H6) (B3 P N2 x0 x1 x7 x8 H6))))))
theorem q5 P N2 : Q o5 (cnd 16 (E k2 (B4 P N2)) (E k1 (B3 P N2))) k3 (B5 P N2) := fun _ _ _ _ _ _ _ => by kernel_rfl
def o6 := O 1688
def B6 (P : PT) (N2 : Y k1) : Y k1 := fun x0 x1 x7 x8 H =>
  B5 P N2 x0 x1 x8 x7 x8 H
theorem q6 P N2 : Q o6 (E k3 (B5 P N2)) k1 (B6 P N2) := fun _ _ _ _ _ _ => by kernel_rfl
def o7 := O 104
def B7 (P : PT) (N2 : Y k1) : Y k1 := fun x0 x1 x7 x8 H =>
  pif (decide ((x8 : Int) < x7)) (B6 P N2 x0 x1 x7 x8 H) (B1 P H)
theorem q7 P N2 : Q o7 (cnd 9 (E k1 (B6 P N2)) (E k0 (B1 P))) k1 (B7 P N2) := fun _ _ _ _ _ _ => by kernel_rfl
def L2 (P : PT) : Y k1 := fun x0 x1 x7 x8 H =>
  ∃ (I : Y k1) (μ : NTy k1 (AHeap → Nat)), I x0 x1 x7 x8 H ∧ ∀ y0 y1 y7 y8 G, I y0 y1 y7 y8 G → B7 P (fun z0 z1 z7 z8 G' => I z0 z1 z7 z8 G' ∧ μ z0 z1 z7 z8 G' < μ y0 y1 y7 y8 G) y0 y1 y7 y8 G
theorem l2 P : LQ k1 (L2 P) (B7 P) := fun ⟨_,_,_,_,_⟩ _ ⟨I, μ, h0, hI⟩ => ⟨apT _ I, apT _ μ, h0, fun ⟨_,_,_,_,_⟩ _ h => hI _ _ _ _ _  h⟩
abbrev k4 : Sk := [(0,.v),(1,.v)]
def o8 := O 12
def B8 (P : PT) : Y k4 := fun x0 x1 H =>
  lenK x0 (fun n1 => L2 P x0 x1 (n1 : Int) 0 H)
theorem q8 P : Q o8 (E k1 (L2 P)) k4 (B8 P) := fun _ _ _ _ => by kernel_rfl
def o9 := O 2
def B9 (P : PT) : Y k4 := fun x0 x1 H =>
  B8 P x0 x1 H
theorem q9 P : Q o9 (E k4 (B8 P)) k4 (B9 P) := fun _ _ _ _ => by kernel_rfl
def code : Code := (.seq (R 0 o9) (.seq (.seq (R 1 o8) (.block 0 (.loop (.seq (R 2 o7) (.seq (.cond (.tmp 9) .skip (.exit 0)) (.seq (.block 1 (.seq (R 3 o6) (.seq (R 4 o5) (.cond (.tmp 16) (.seq (R 5 o4) .ret) .skip)))) (R 6 o3))))))) (.seq (R 7 o1) .ret)))
theorem body : Tryz.f172.body = some code := by kernel_rfl
theorem main (P : PT) : ∀ env H, (En 19 k4 (B9 P)) env H → AW Tryz.prog T0 code env H (M (ret P)) :=
  (r_seq (b (q9 P)) (r_seq (r_seq (b (q8 P)) (r_block (rL (l2 P) (fun N2 => (r_seq (b (q7 P N2)) (r_seq (r_cond rfl r_skip (r_exit (fun _ _ h => h))) (r_seq (r_block (r_seq (b (q6 P N2)) (r_seq (b (q5 P N2)) (r_cond rfl (r_seq (b (q4 P N2)) r_ret) r_skip)))) (b (q3 P N2))))))))) (r_seq (b (q1 P)) r_ret)))
theorem ac (P : PT) (x0 x1 : Value) (H : AHeap) (h : B9 P x0 x1 H) : AC Tryz.prog T0 172 [x0, x1] H P :=
  r_fn T0_ok (c := code) (n := 19) Tryz.func172 body (by kernel_rfl) (main P) (En_mk (x0, x1, ()) (by kernel_rfl) ⟨by kernel_rfl, by kernel_rfl, trivial⟩ h)

end F172
namespace F173
abbrev E := En 20
abbrev Q := QB Tryz.prog T0 20
def O (k : Nat) := ob Tryz.f173 (pth k)
def ret (P : PT) : EP := retE T0 20 Tryz.f173 P
abbrev k0 : Sk := []
def o1 := O 510
def B1 (P : PT) : Y k0 := fun H =>
  P (Value.int .i64 0) H
theorem q1 P : Q o1 (ret P) k0 (B1 P) := fun _ _ => by kernel_rfl
def o2 := O 2036
def B2 (P : PT) : Y k0 := fun H =>
  P (Value.int .i64 1) H
theorem q2 P : Q o2 (ret P) k0 (B2 P) := fun _ _ => by kernel_rfl
abbrev k1 : Sk := [(0,J),(1,J)]
def o3 := O 508
def B3 (P : PT) : Y k1 := fun x0 x1 H =>
  pif (decide ((x0 : Int) > x1)) (B2 P H) (B1 P H)
theorem q3 P : Q o3 (cnd 19 (E k0 (B2 P)) (E k0 (B1 P))) k1 (B3 P) := fun _ _ _ _ => by kernel_rfl
def o4 := O 1012
def B4 (P : PT) : Y k0 := fun H =>
  P (Value.int .i64 (-1)) H
theorem q4 P : Q o4 (ret P) k0 (B4 P) := fun _ _ => by kernel_rfl
def o5 := O 252
def B5 (P : PT) : Y k1 := fun x0 x1 H =>
  pif (decide ((x0 : Int) < x1)) (B4 P H) (B3 P x0 x1 H)
theorem q5 P : Q o5 (cnd 16 (E k0 (B4 P)) (E k1 (B3 P))) k1 (B5 P) := fun _ _ _ _ => by kernel_rfl
def o6 := O 500
def B6 (P : PT) : Y k0 := fun H =>
  P (Value.int .i64 1) H
theorem q6 P : Q o6 (ret P) k0 (B6 P) := fun _ _ => by kernel_rfl
abbrev k2 : Sk := [(0,J),(1,J),(6,.b)]
def o7 := O 124
def B7 (P : PT) : Y k2 := fun x0 x1 x6 H =>
  pif x6 (B6 P H) (B5 P x0 x1 H)
theorem q7 P : Q o7 (cnd 13 (E k0 (B6 P)) (E k1 (B5 P))) k2 (B7 P) := fun _ _ _ _ _ => by kernel_rfl
def o8 := O 490
def B8 (P : PT) : Y k0 := fun H =>
  P (Value.int .i64 (-1)) H
theorem q8 P : Q o8 (ret P) k0 (B8 P) := fun _ _ => by kernel_rfl
def o9 := O 1956
def B9 (P : PT) : Y k0 := fun H =>
  P (Value.int .i64 0) H
theorem q9 P : Q o9 (ret P) k0 (B9 P) := fun _ _ => by kernel_rfl
abbrev k3 : Sk := [(6,.b)]
def o10 := O 488
def B10 (P : PT) : Y k3 := fun x6 H =>
  pif x6 (B9 P H) (B8 P H)
theorem q10 P : Q o10 (cnd 12 (E k0 (B9 P)) (E k0 (B8 P))) k3 (B10 P) := fun _ _ _ => by kernel_rfl
abbrev k4 : Sk := [(0,J),(1,J),(5,.b),(6,.b)]
def o11 := O 60
def B11 (P : PT) : Y k4 := fun x0 x1 x5 x6 H =>
  pif x5 (B10 P x6 H) (B7 P x0 x1 x6 H)
theorem q11 P : Q o11 (cnd 11 (E k3 (B10 P)) (E k2 (B7 P))) k4 (B11 P) := fun _ _ _ _ _ _ => by kernel_rfl
abbrev k5 : Sk := [(0,J),(1,J),(5,.b)]
def o12 := O 14
def B12 (P : PT) : Y k5 := fun x0 x1 x5 H =>
  AC Tryz.prog T0 204 [(Value.int .i64 x1)] H (fun v1 H2 => asB v1 (fun v3 => B11 P x0 x1 x5 v3 H2))
theorem q12 P : Q o12 (E k4 (B11 P)) k5 (B12 P) := fun _ _ _ _ _ => by kernel_rfl
def o13 := O 6
def B13 (P : PT) : Y k1 := fun x0 x1 H =>
  AC Tryz.prog T0 204 [(Value.int .i64 x0)] H (fun v1 H2 => asB v1 (fun v3 => B12 P x0 x1 v3 H2))
theorem q13 P : Q o13 (E k5 (B12 P)) k1 (B13 P) := fun _ _ _ _ => by kernel_rfl
def o14 := O 2
def B14 (P : PT) : Y k1 := fun x0 x1 H =>
  B13 P x0 x1 H
theorem q14 P : Q o14 (E k1 (B13 P)) k1 (B14 P) := fun _ _ _ _ => by kernel_rfl
def code : Code := (.seq (R 0 o14) (.seq (R 1 o13) (.seq (R 2 o12) (.seq (.seq (R 3 o11) (.cond (.tmp 11) (.seq (.seq (R 4 o10) (.cond (.tmp 12) (.seq (R 5 o9) .ret) .skip)) (.seq (R 6 o8) .ret)) .skip)) (.seq (.seq (R 7 o7) (.cond (.tmp 13) (.seq (R 8 o6) .ret) .skip)) (.seq (.seq (R 9 o5) (.cond (.tmp 16) (.seq (R 10 o4) .ret) .skip)) (.seq (.seq (R 11 o3) (.cond (.tmp 19) (.seq (R 12 o2) .ret) .skip)) (.seq (R 13 o1) .ret))))))))
theorem body : Tryz.f173.body = some code := by kernel_rfl
theorem main (P : PT) : ∀ env H, (En 20 k1 (B14 P)) env H → AW Tryz.prog T0 code env H (M (ret P)) :=
  (r_seq (b (q14 P)) (r_seq (b (q13 P)) (r_seq (b (q12 P)) (r_seq (r_seq (b (q11 P)) (r_cond rfl (r_seq (r_seq (b (q10 P)) (r_cond rfl (r_seq (b (q9 P)) r_ret) r_skip)) (r_seq (b (q8 P)) r_ret)) r_skip)) (r_seq (r_seq (b (q7 P)) (r_cond rfl (r_seq (b (q6 P)) r_ret) r_skip)) (r_seq (r_seq (b (q5 P)) (r_cond rfl (r_seq (b (q4 P)) r_ret) r_skip)) (r_seq (r_seq (b (q3 P)) (r_cond rfl (r_seq (b (q2 P)) r_ret) r_skip)) (r_seq (b (q1 P)) r_ret))))))))
theorem ac (P : PT) (x0 x1 : Int) (H : AHeap) (h : B14 P x0 x1 H) : AC Tryz.prog T0 173 [(Value.int .i64 x0), (Value.int .i64 x1)] H P :=
  r_fn T0_ok (c := code) (n := 20) Tryz.func173 body (by kernel_rfl) (main P) (En_mk (x0, x1, ()) (by kernel_rfl) ⟨by kernel_rfl, by kernel_rfl, trivial⟩ h)

end F173
namespace F174
abbrev E := En 9
abbrev Q := QB Tryz.prog T0 9
def O (k : Nat) := ob Tryz.f174 (pth k)
def ret (P : PT) : EP := retE T0 9 Tryz.f174 P
abbrev k0 : Sk := [(0,.v),(1,.v)]
def o1 := O 6
def B1 (P : PT) : Y k0 := fun x0 x1 H =>
  AC Tryz.prog T0 205 [x0, x1] H (fun v1 H2 => asI .i64 v1 (fun v3 => P (Value.bool (decide ((v3 : Int) ≥ 0))) H2))
theorem q1 P : Q o1 (ret P) k0 (B1 P) := fun _ _ _ _ => by kernel_rfl
def o2 := O 2
def B2 (P : PT) : Y k0 := fun x0 x1 H =>
  B1 P x0 x1 H
theorem q2 P : Q o2 (E k0 (B1 P)) k0 (B2 P) := fun _ _ _ _ => by kernel_rfl
def code : Code := (.seq (R 0 o2) (.seq (R 1 o1) .ret))
theorem body : Tryz.f174.body = some code := by kernel_rfl
theorem main (P : PT) : ∀ env H, (En 9 k0 (B2 P)) env H → AW Tryz.prog T0 code env H (M (ret P)) :=
  (r_seq (b (q2 P)) (r_seq (b (q1 P)) r_ret))
theorem ac (P : PT) (x0 x1 : Value) (H : AHeap) (h : B2 P x0 x1 H) : AC Tryz.prog T0 174 [x0, x1] H P :=
  r_fn T0_ok (c := code) (n := 9) Tryz.func174 body (by kernel_rfl) (main P) (En_mk (x0, x1, ()) (by kernel_rfl) ⟨by kernel_rfl, by kernel_rfl, trivial⟩ h)

end F174
namespace F175
abbrev E := En 8
abbrev Q := QB Tryz.prog T0 8
def O (k : Nat) := ob Tryz.f175 (pth k)
def ret (P : PT) : EP := retE T0 8 Tryz.f175 P
abbrev k0 : Sk := [(0,J),(1,.v)]
def o1 := O 6
def B1 (P : PT) : Y k0 := fun x0 x1 H =>
  asP x1 (fun b1 o2 => ld1 H b1 o2 (fun v3 => callV Tryz.prog T0 v3 [(Value.int .i64 x0)] H (fun v4 H5 => asB v4 (fun v6 => P (Value.bool (!v6)) H5))))
theorem q1 P : Q o1 (ret P) k0 (B1 P) := fun _ _ _ _ => by kernel_rfl
def o2 := O 2
def B2 (P : PT) : Y k0 := fun x0 x1 H =>
  B1 P x0 x1 H
theorem q2 P : Q o2 (E k0 (B1 P)) k0 (B2 P) := fun _ _ _ _ => by kernel_rfl
def code : Code := (.seq (R 0 o2) (.seq (R 1 o1) .ret))
theorem body : Tryz.f175.body = some code := by kernel_rfl
theorem main (P : PT) : ∀ env H, (En 8 k0 (B2 P)) env H → AW Tryz.prog T0 code env H (M (ret P)) :=
  (r_seq (b (q2 P)) (r_seq (b (q1 P)) r_ret))
theorem ac (P : PT) (x0 : Int) (x1 : Value) (H : AHeap) (h : B2 P x0 x1 H) : AC Tryz.prog T0 175 [(Value.int .i64 x0), x1] H P :=
  r_fn T0_ok (c := code) (n := 8) Tryz.func175 body (by kernel_rfl) (main P) (En_mk (x0, x1, ()) (by kernel_rfl) ⟨by kernel_rfl, by kernel_rfl, trivial⟩ h)

end F175
namespace F182
abbrev E := En 228
abbrev Q := QB Tryz.prog T0 228
def O (k : Nat) := ob Tryz.f182 (pth k)
def ret (P : PT) : EP := retE T0 228 Tryz.f182 P
abbrev k0 : Sk := [(2,.x)]
def o1 := O 30
def B1 (P : PT) : Y k0 := fun x2 H =>
  stK H x2 0 [(Value.int .i64 0), (Value.slice none 0 0)] (fun H1 => ldI .i64 H1 x2 0 (fun v2 => ld1 H1 x2 1 (fun v3 => P (Value.tuple ⟨[(Value.agg ⟨[(Value.int .i64 v2), v3]⟩), (Value.bool false)]⟩) H1)))
theorem q1 P : Q o1 (ret P) k0 (B1 P) := fun _ _ _ => by kernel_rfl
def o2 := O 468
def B2 (P : PT) : Y k0 := fun x2 H =>
  newK H [(Value.int .i64 0), (Value.int .i64 1), (Value.int .i64 0), (Value.int .i64 1), (Value.int .i64 0), (Value.int .i64 1)] 28 (fun b1 H2 => AC Tryz.prog T0 60 [(Value.int .i64 2), (Value.slice (some ⟨b1, 0, none⟩) 3 (3 + 1))] H2 (fun v3 H4 => agg2 v3 (fun v5 v6 => asI .i64 v5 (fun v7 => stK H4 x2 0 [(Value.int .i64 v7), v6] (fun H9 => ldI .i64 H9 x2 0 (fun v10 => ld1 H9 x2 1 (fun v11 => P (Value.tuple ⟨[(Value.agg ⟨[(Value.int .i64 v10), v11]⟩), (Value.bool true)]⟩) H9)))))))
theorem q2 P : Q o2 (ret P) k0 (B2 P) := fun _ _ _ => by kernel_rfl
def o3 := O 1884
def B3 (P : PT) : Y k0 := fun x2 H =>
  newK H [(Value.int .i64 0), (Value.int .i64 1), (Value.int .i64 0), (Value.int .i64 2), (Value.int .i64 0), (Value.int .i64 3), (Value.int .i64 1), (Value.int .i64 2), (Value.int .i64 1), (Value.int .i64 3), (Value.int .i64 2), (Value.int .i64 3)] 28 (fun b1 H2 => AC Tryz.prog T0 60 [(Value.int .i64 4), (Value.slice (some ⟨b1, 0, none⟩) 6 (6 + 1))] H2 (fun v3 H4 => agg2 v3 (fun v5 v6 => asI .i64 v5 (fun v7 => stK H4 x2 0 [(Value.int .i64 v7), v6] (fun H9 => ldI .i64 H9 x2 0 (fun v10 => ld1 H9 x2 1 (fun v11 => P (Value.tuple ⟨[(Value.agg ⟨[(Value.int .i64 v10), v11]⟩), (Value.bool true)]⟩) H9)))))))
theorem q3 P : Q o3 (ret P) k0 (B3 P) := fun _ _ _ => by kernel_rfl
abbrev k1 : Sk := [(2,.x),(4,.v)]
def o4 := O 15098
def B4 (P : PT) : Y k1 := fun x2 x4 H =>
  AC Tryz.prog T0 60 [(Value.int .i64 6), x4] H (fun v1 H2 => agg2 v1 (fun v3 v4 => asI .i64 v3 (fun v5 => stK H2 x2 0 [(Value.int .i64 v5), v4] (fun H7 => ldI .i64 H7 x2 0 (fun v8 => ld1 H7 x2 1 (fun v9 => P (Value.tuple ⟨[(Value.agg ⟨[(Value.int .i64 v8), v9]⟩), (Value.bool true)]⟩) H7))))))
theorem q4 P : Q o4 (ret P) k1 (B4 P) := fun _ _ _ _ => by kernel_rfl
abbrev k2 : Sk := [(2,.x),(4,.v),(5,J)]
def o6 := O 241555
def B6 (P : PT) (N5 : Y k2) : Y k2 := fun x2 x4 x5 H =>
  N5 x2 x4 (IntKind.i64.wrap (x5 + 1)) H
theorem q6 P N5 : Q o6 (E k2 N5) k2 (B6 P N5) := fun _ _ _ _ _ => by kernel_rfl
def o7 := O 483108
def B7 (P : PT) (N5 : Y k2) : Y k2 := fun x2 x4 x5 H =>
  newK H [(Value.int .i64 x5), (Value.int .i64 3), (Value.int .i64 x5), (Value.int .i64 4), (Value.int .i64 x5), (Value.int .i64 5)] 28 (fun b1 H2 => apK T0 28 H2 x4 (Value.slice (some ⟨b1, 0, none⟩) 3 (3 + 1)) (fun v3 H4 => B6 P N5 x2 v3 x5 H4))
theorem q7 P N5 : Q o7 (E k2 (B6 P N5)) k2 (B7 P N5) := fun _ _ _ _ _ => by kernel_rfl
def o8 := O 241552
def B8 (P : PT) (N5 : Y k2) : Y k2 := fun x2 x4 x5 H =>
  pif (decide ((x5 : Int) < 3)) (B7 P N5 x2 x4 x5 H) (B4 P x2 x4 H)
theorem q8 P N5 : Q o8 (cnd 36 (E k2 (B7 P N5)) (E k1 (B4 P))) k2 (B8 P N5) := fun _ _ _ _ _ => by kernel_rfl
def L5 (P : PT) : Y k2 := fun x2 x4 x5 H =>
  ∃ (I : Y k2) (μ : NTy k2 (AHeap → Nat)), I x2 x4 x5 H ∧ ∀ y2 y4 y5 G, I y2 y4 y5 G → B8 P (fun z2 z4 z5 G' => I z2 z4 z5 G' ∧ μ z2 z4 z5 G' < μ y2 y4 y5 G) y2 y4 y5 G
theorem l5 P : LQ k2 (L5 P) (B8 P) := fun ⟨_,_,_,_⟩ _ ⟨I, μ, h0, hI⟩ => ⟨apT _ I, apT _ μ, h0, fun ⟨_,_,_,_⟩ _ h => hI _ _ _ _  h⟩
def o9 := O 15096
def B9 (P : PT) : Y k1 := fun x2 x4 H =>
  L5 P x2 x4 0 H
theorem q9 P : Q o9 (E k2 (L5 P)) k1 (B9 P) := fun _ _ _ _ => by kernel_rfl
def o10 := O 60410
def B10 (P : PT) : Y k1 := fun x2 x4 H =>
  newK H [(Value.int .i64 0), (Value.int .i64 3), (Value.int .i64 1), (Value.int .i64 4), (Value.int .i64 2), (Value.int .i64 5)] 28 (fun b1 H2 => apK T0 28 H2 x4 (Value.slice (some ⟨b1, 0, none⟩) 3 (3 + 1)) (fun v3 H4 => AC Tryz.prog T0 60 [(Value.int .i64 6), v3] H4 (fun v5 H6 => agg2 v5 (fun v7 v8 => asI .i64 v7 (fun v9 => stK H6 x2 0 [(Value.int .i64 v9), v8] (fun H11 => ldI .i64 H11 x2 0 (fun v12 => ld1 H11 x2 1 (fun v13 => P (Value.tuple ⟨[(Value.agg ⟨[(Value.int .i64 v12), v13]⟩), (Value.bool true)]⟩) H11))))))))
theorem q10 P : Q o10 (ret P) k1 (B10 P) := fun _ _ _ _ => by kernel_rfl
def o11 := O 30204
def B11 (P : PT) : Y k1 := fun x2 x4 H =>
  newK H [(Value.int .i64 0), (Value.int .i64 1), (Value.int .i64 2)] 2 (fun b1 H2 => AC Tryz.prog T0 209 [x4, (Value.slice (some ⟨b1, 0, none⟩) 3 (3 + 1))] H2 (fun v3 H4 => newK H4 [(Value.int .i64 3), (Value.int .i64 4), (Value.int .i64 5)] 2 (fun b6 H7 => AC Tryz.prog T0 209 [v3, (Value.slice (some ⟨b6, 0, none⟩) 3 (3 + 1))] H7 (fun v8 H9 => B10 P x2 v8 H9))))
theorem q11 P : Q o11 (E k1 (B10 P)) k1 (B11 P) := fun _ _ _ _ => by kernel_rfl
def o12 := O 241658
def B12 (P : PT) : Y k1 := fun x2 x4 H =>
  AC Tryz.prog T0 60 [(Value.int .i64 8), x4] H (fun v1 H2 => agg2 v1 (fun v3 v4 => asI .i64 v3 (fun v5 => stK H2 x2 0 [(Value.int .i64 v5), v4] (fun H7 => ldI .i64 H7 x2 0 (fun v8 => ld1 H7 x2 1 (fun v9 => P (Value.tuple ⟨[(Value.agg ⟨[(Value.int .i64 v8), v9]⟩), (Value.bool true)]⟩) H7))))))
theorem q12 P : Q o12 (ret P) k1 (B12 P) := fun _ _ _ _ => by kernel_rfl
abbrev k3 : Sk := [(2,.x),(4,.v),(6,J)]
def o14 := O 3866515
def B14 (P : PT) (N13 : Y k3) : Y k3 := fun x2 x4 x6 H =>
  N13 x2 x4 (IntKind.i64.wrap (x6 + 1)) H
theorem q14 P N13 : Q o14 (E k3 N13) k3 (B14 P N13) := fun _ _ _ _ _ => by kernel_rfl
abbrev k4 : Sk := [(2,.x),(4,.v),(6,J),(7,J)]
def o16 := O 247456915
def B16 (P : PT) (N13 : Y k3) (N15 : Y k4) : Y k4 := fun x2 x4 x6 x7 H =>
  N15 x2 x4 x6 (IntKind.i64.wrap (2 * x7)) H
theorem q16 P N13 N15 : Q o16 (E k4 N15) k4 (B16 P N13 N15) := fun _ _ _ _ _ _ => by kernel_rfl
def o17 := O 1979655314
def B17 (P : PT) (N13 : Y k3) (N15 : Y k4) : Y k4 := fun x2 x4 x6 x7 H =>
  newK H [(Value.int .i64 x6), (Value.int .i64 (IntKind.i64.wrap (x6 + x7)))] 28 (fun b1 H2 => apK T0 28 H2 x4 (Value.slice (some ⟨b1, 0, none⟩) 1 (1 + 1)) (fun v3 H4 => B16 P N13 N15 x2 v3 x6 x7 H4))
theorem q17 P N13 N15 : Q o17 (E k4 (B16 P N13 N15)) k4 (B17 P N13 N15) := fun _ _ _ _ _ _ => by kernel_rfl
def o18 := O 989827656
def B18 (P : PT) (N13 : Y k3) (N15 : Y k4) : Y k4 := fun x2 x4 x6 x7 H =>
  pif ((IntKind.i64.wrap (BitVec.ofInt 64 x6 &&& BitVec.ofInt 64 x7).toNat : Int) == 0) (B17 P N13 N15 x2 x4 x6 x7 H) (B16 P N13 N15 x2 x4 x6 x7 H)
theorem q18 P N13 N15 : Q o18 (cnd 77 (E k4 (B17 P N13 N15)) (E k4 (B16 P N13 N15))) k4 (B18 P N13 N15) := fun _ _ _ _ _ _ => by kernel_rfl
def o19 := O 247456912
def B19 (P : PT) (N13 : Y k3) (N15 : Y k4) : Y k4 := fun x2 x4 x6 x7 H =>
  pif (decide ((x7 : Int) < 8)) (B18 P N13 N15 x2 x4 x6 x7 H) (B14 P N13 x2 x4 x6 H)
theorem q19 P N13 N15 : Q o19 (cnd 71 (E k4 (B18 P N13 N15)) (E k3 (B14 P N13))) k4 (B19 P N13 N15) := fun _ _ _ _ _ _ => by kernel_rfl
def L15 (P : PT) (N13 : Y k3) : Y k4 := fun x2 x4 x6 x7 H =>
  ∃ (I : Y k4) (μ : NTy k4 (AHeap → Nat)), I x2 x4 x6 x7 H ∧ ∀ y2 y4 y6 y7 G, I y2 y4 y6 y7 G → B19 P N13 (fun z2 z4 z6 z7 G' => I z2 z4 z6 z7 G' ∧ μ z2 z4 z6 z7 G' < μ y2 y4 y6 y7 G) y2 y4 y6 y7 G
theorem l15 P N13 : LQ k4 (L15 P N13) (B19 P N13) := fun ⟨_,_,_,_,_⟩ _ ⟨I, μ, h0, hI⟩ => ⟨apT _ I, apT _ μ, h0, fun ⟨_,_,_,_,_⟩ _ h => hI _ _ _ _ _  h⟩
def o20 := O 15466056
def B20 (P : PT) (N13 : Y k3) : Y k3 := fun x2 x4 x6 H =>
  L15 P N13 x2 x4 x6 1 H
theorem q20 P N13 : Q o20 (E k4 (L15 P N13)) k3 (B20 P N13) := fun _ _ _ _ _ => by kernel_rfl
def o21 := O 3866512
def B21 (P : PT) (N13 : Y k3) : Y k3 := fun x2 x4 x6 H =>
  pif (decide ((x6 : Int) < 8)) (B20 P N13 x2 x4 x6 H) (B12 P x2 x4 H)
theorem q21 P N13 : Q o21 (cnd 67 (E k3 (B20 P N13)) (E k1 (B12 P))) k3 (B21 P N13) := fun _ _ _ _ _ => by kernel_rfl
def L13 (P : PT) : Y k3 := fun x2 x4 x6 H =>
  ∃ (I : Y k3) (μ : NTy k3 (AHeap → Nat)), I x2 x4 x6 H ∧ ∀ y2 y4 y6 G, I y2 y4 y6 G → B21 P (fun z2 z4 z6 G' => I z2 z4 z6 G' ∧ μ z2 z4 z6 G' < μ y2 y4 y6 G) y2 y4 y6 G
theorem l13 P : LQ k3 (L13 P) (B21 P) := fun ⟨_,_,_,_⟩ _ ⟨I, μ, h0, hI⟩ => ⟨apT _ I, apT _ μ, h0, fun ⟨_,_,_,_⟩ _ h => hI _ _ _ _  h⟩
def o22 := O 241656
def B22 (P : PT) : Y k1 := fun x2 x4 H =>
  L13 P x2 x4 0 H
theorem q22 P : Q o22 (E k3 (L13 P)) k1 (B22 P) := fun _ _ _ _ => by kernel_rfl
def o23 := O 966650
def B23 (P : PT) : Y k1 := fun x2 x4 H =>
  AC Tryz.prog T0 60 [(Value.int .i64 10), x4] H (fun v1 H2 => agg2 v1 (fun v3 v4 => asI .i64 v3 (fun v5 => stK H2 x2 0 [(Value.int .i64 v5), v4] (fun H7 => ldI .i64 H7 x2 0 (fun v8 => ld1 H7 x2 1 (fun v9 => P (Value.tuple ⟨[(Value.agg ⟨[(Value.int .i64 v8), v9]⟩), (Value.bool true)]⟩) H7))))))
theorem q23 P : Q o23 (ret P) k1 (B23 P) := fun _ _ _ _ => by kernel_rfl
abbrev k5 : Sk := [(2,.x),(4,.v),(8,J)]
def o25 := O 15466387
def B25 (P : PT) (N24 : Y k5) : Y k5 := fun x2 x4 x8 H =>
  N24 x2 x4 (IntKind.i64.wrap (x8 + 1)) H
theorem q25 P N24 : Q o25 (E k5 N24) k5 (B25 P N24) := fun _ _ _ _ _ => by kernel_rfl
def o26 := O 30932772
def B26 (P : PT) (N24 : Y k5) : Y k5 := fun x2 x4 x8 H =>
  newK H [(Value.int .i64 x8), (Value.int .i64 (Int.tmod (IntKind.i64.wrap (x8 + 1)) 5)), (Value.int .i64 x8), (Value.int .i64 (IntKind.i64.wrap (x8 + 5))), (Value.int .i64 (IntKind.i64.wrap (x8 + 5))), (Value.int .i64 (IntKind.i64.wrap ((Int.tmod (IntKind.i64.wrap (x8 + 2)) 5) + 5)))] 28 (fun b1 H2 => apK T0 28 H2 x4 (Value.slice (some ⟨b1, 0, none⟩) 3 (3 + 1)) (fun v3 H4 => B25 P N24 x2 v3 x8 H4))
theorem q26 P N24 : Q o26 (E k5 (B25 P N24)) k5 (B26 P N24) := fun _ _ _ _ _ => by kernel_rfl
def o27 := O 15466384
def B27 (P : PT) (N24 : Y k5) : Y k5 := fun x2 x4 x8 H =>
  pif (decide ((x8 : Int) < 5)) (B26 P N24 x2 x4 x8 H) (B23 P x2 x4 H)
theorem q27 P N24 : Q o27 (cnd 91 (E k5 (B26 P N24)) (E k1 (B23 P))) k5 (B27 P N24) := fun _ _ _ _ _ => by kernel_rfl
def L24 (P : PT) : Y k5 := fun x2 x4 x8 H =>
  ∃ (I : Y k5) (μ : NTy k5 (AHeap → Nat)), I x2 x4 x8 H ∧ ∀ y2 y4 y8 G, I y2 y4 y8 G → B27 P (fun z2 z4 z8 G' => I z2 z4 z8 G' ∧ μ z2 z4 z8 G' < μ y2 y4 y8 G) y2 y4 y8 G
theorem l24 P : LQ k5 (L24 P) (B27 P) := fun ⟨_,_,_,_⟩ _ ⟨I, μ, h0, hI⟩ => ⟨apT _ I, apT _ μ, h0, fun ⟨_,_,_,_⟩ _ h => hI _ _ _ _  h⟩
def o28 := O 966648
def B28 (P : PT) : Y k1 := fun x2 x4 H =>
  L24 P x2 x4 0 H
theorem q28 P : Q o28 (E k5 (L24 P)) k1 (B28 P) := fun _ _ _ _ => by kernel_rfl
def o29 := O 15466478
def B29 (P : PT) : Y k1 := fun x2 x4 H =>
  newK H [(Value.int .i64 0), (Value.int .i64 1), (Value.int .i64 10), (Value.int .i64 4), (Value.int .i64 11), (Value.int .i64 5)] 28 (fun b1 H2 => apK T0 28 H2 x4 (Value.slice (some ⟨b1, 0, none⟩) 3 (3 + 1)) (fun v3 H4 => AC Tryz.prog T0 60 [(Value.int .i64 12), v3] H4 (fun v5 H6 => agg2 v5 (fun v7 v8 => asI .i64 v7 (fun v9 => stK H6 x2 0 [(Value.int .i64 v9), v8] (fun H11 => ldI .i64 H11 x2 0 (fun v12 => ld1 H11 x2 1 (fun v13 => P (Value.tuple ⟨[(Value.agg ⟨[(Value.int .i64 v12), v13]⟩), (Value.bool true)]⟩) H11))))))))
theorem q29 P : Q o29 (ret P) k1 (B29 P) := fun _ _ _ _ => by kernel_rfl
def o30 := O 7733238
def B30 (P : PT) : Y k1 := fun x2 x4 H =>
  newK H [(Value.int .i64 0), (Value.int .i64 10), (Value.int .i64 11)] 2 (fun b1 H2 => AC Tryz.prog T0 209 [x4, (Value.slice (some ⟨b1, 0, none⟩) 3 (3 + 1))] H2 (fun v3 H4 => B29 P x2 v3 H4))
theorem q30 P : Q o30 (E k1 (B29 P)) k1 (B30 P) := fun _ _ _ _ => by kernel_rfl
abbrev k6 : Sk := [(2,.x),(4,.v),(9,.x),(11,J)]
def o32 := O 123731795
def B32 (P : PT) (N31 : Y k6) : Y k6 := fun x2 x4 x9 x11 H =>
  N31 x2 x4 x9 (IntKind.i64.wrap (x11 + 1)) H
theorem q32 P N31 : Q o32 (E k6 N31) k6 (B32 P N31) := fun _ _ _ _ _ _ => by kernel_rfl
def o33 := O 989854354
def B33 (P : PT) (N31 : Y k6) : Y k6 := fun x2 x4 x9 x11 H =>
  ld1 H x9 1 (fun v1 => idxK v1 x11 2 (fun b2 o3 => ldI .i64 H b2 o3 (fun v4 => ldI .i64 H b2 (o3 + 1) (fun v5 => newK H [(Value.int .i64 v4), (Value.int .i64 v5)] 28 (fun b6 H7 => apK T0 28 H7 x4 (Value.slice (some ⟨b6, 0, none⟩) 1 (1 + 1)) (fun v8 H9 => B32 P N31 x2 v8 x9 x11 H9))))))
theorem q33 P N31 : Q o33 (E k6 (B32 P N31)) k6 (B33 P N31) := fun _ _ _ _ _ _ => by kernel_rfl
def o34 := O 494927176
def B34 (P : PT) (N31 : Y k6) : Y k6 := fun x2 x4 x9 x11 H =>
  ld1 H x9 1 (fun v1 => idxK v1 x11 2 (fun b2 o3 => ldI .i64 H b2 o3 (fun v4 => pif ((v4 : Int) != 0) (B33 P N31 x2 x4 x9 x11 H) (B32 P N31 x2 x4 x9 x11 H))))
theorem q34 P N31 : Q o34 (cnd 134 (E k6 (B33 P N31)) (E k6 (B32 P N31))) k6 (B34 P N31) := fun _ _ _ _ _ _ => by kernel_rfl
def o35 := O 123731792
def B35 (P : PT) (N31 : Y k6) : Y k6 := fun x2 x4 x9 x11 H =>
  ld1 H x9 1 (fun v1 => lenK v1 (fun n2 => pif (decide ((x11 : Int) < (n2 : Int))) (B34 P N31 x2 x4 x9 x11 H) (B30 P x2 x4 H)))
theorem q35 P N31 : Q o35 (cnd 125 (E k6 (B34 P N31)) (E k1 (B30 P))) k6 (B35 P N31) := fun _ _ _ _ _ _ => by kernel_rfl
def L31 (P : PT) : Y k6 := fun x2 x4 x9 x11 H =>
  ∃ (I : Y k6) (μ : NTy k6 (AHeap → Nat)), I x2 x4 x9 x11 H ∧ ∀ y2 y4 y9 y11 G, I y2 y4 y9 y11 G → B35 P (fun z2 z4 z9 z11 G' => I z2 z4 z9 z11 G' ∧ μ z2 z4 z9 z11 G' < μ y2 y4 y9 y11 G) y2 y4 y9 y11 G
theorem l31 P : LQ k6 (L31 P) (B35 P) := fun ⟨_,_,_,_,_⟩ _ ⟨I, μ, h0, hI⟩ => ⟨apT _ I, apT _ μ, h0, fun ⟨_,_,_,_,_⟩ _ h => hI _ _ _ _ _  h⟩
abbrev k7 : Sk := [(2,.x),(4,.v),(9,.x)]
def o36 := O 7733236
def B36 (P : PT) : Y k7 := fun x2 x4 x9 H =>
  L31 P x2 x4 x9 0 H
theorem q36 P : Q o36 (E k6 (L31 P)) k7 (B36 P) := fun _ _ _ _ _ => by kernel_rfl
def o37 := O 1933308
def B37 (P : PT) : Y k1 := fun x2 x4 H =>
  AC Tryz.prog T0 182 [(Value.string (⟨#[112, 101, 116, 101, 114, 115, 101, 110]⟩))] H (fun v1 H2 => tup2 v1 (fun v3 v4 => agg2 v3 (fun v5 v6 => asI .i64 v5 (fun v7 => asB v4 (fun v9 => newK H2 [(Value.int .i64 0), (Value.slice none 0 0)] 31 (fun b10 H11 => stK H11 b10 0 [(Value.int .i64 v7), v6] (fun H12 => B36 P x2 x4 b10 H12)))))))
theorem q37 P : Q o37 (E k7 (B36 P)) k1 (B37 P) := fun _ _ _ _ => by kernel_rfl
def o38 := O 30932982
def B38 (P : PT) : Y k1 := fun x2 x4 H =>
  newK H [(Value.int .i64 10), (Value.int .i64 11), (Value.int .i64 12), (Value.int .i64 13), (Value.int .i64 14), (Value.int .i64 15), (Value.int .i64 16), (Value.int .i64 17), (Value.int .i64 18), (Value.int .i64 19)] 2 (fun b1 H2 => AC Tryz.prog T0 209 [x4, (Value.slice (some ⟨b1, 0, none⟩) 10 (10 + 1))] H2 (fun v3 H4 => AC Tryz.prog T0 60 [(Value.int .i64 20), v3] H4 (fun v6 H7 => agg2 v6 (fun v8 v9 => asI .i64 v8 (fun v10 => stK H7 x2 0 [(Value.int .i64 v10), v9] (fun H12 => ldI .i64 H12 x2 0 (fun v13 => ld1 H12 x2 1 (fun v14 => P (Value.tuple ⟨[(Value.agg ⟨[(Value.int .i64 v13), v14]⟩), (Value.bool true)]⟩) H12))))))))
theorem q38 P : Q o38 (ret P) k1 (B38 P) := fun _ _ _ _ => by kernel_rfl
def o39 := O 15466490
def B39 (P : PT) : Y k1 := fun x2 x4 H =>
  newK H [(Value.int .i64 5), (Value.int .i64 6), (Value.int .i64 7), (Value.int .i64 8), (Value.int .i64 9)] 2 (fun b1 H2 => AC Tryz.prog T0 209 [x4, (Value.slice (some ⟨b1, 0, none⟩) 5 (5 + 1))] H2 (fun v3 H4 => B38 P x2 v3 H4))
theorem q39 P : Q o39 (E k1 (B38 P)) k1 (B39 P) := fun _ _ _ _ => by kernel_rfl
abbrev k8 : Sk := [(2,.x),(4,.v),(12,J)]
def o41 := O 247463827
def B41 (P : PT) (N40 : Y k8) : Y k8 := fun x2 x4 x12 H =>
  N40 x2 x4 (IntKind.i64.wrap (x12 + 1)) H
theorem q41 P N40 : Q o41 (E k8 N40) k8 (B41 P N40) := fun _ _ _ _ _ => by kernel_rfl
def o42 := O 494927652
def B42 (P : PT) (N40 : Y k8) : Y k8 := fun x2 x4 x12 H =>
  newK H [(Value.int .i64 x12), (Value.int .i64 (IntKind.i64.wrap (x12 + 5))), (Value.int .i64 x12), (Value.int .i64 (IntKind.i64.wrap (x12 + 10))), (Value.int .i64 x12), (Value.int .i64 (IntKind.i64.wrap (x12 + 15)))] 28 (fun b1 H2 => apK T0 28 H2 x4 (Value.slice (some ⟨b1, 0, none⟩) 3 (3 + 1)) (fun v3 H4 => B41 P N40 x2 v3 x12 H4))
theorem q42 P N40 : Q o42 (E k8 (B41 P N40)) k8 (B42 P N40) := fun _ _ _ _ _ => by kernel_rfl
def o43 := O 247463824
def B43 (P : PT) (N40 : Y k8) : Y k8 := fun x2 x4 x12 H =>
  pif (decide ((x12 : Int) < 5)) (B42 P N40 x2 x4 x12 H) (B39 P x2 x4 H)
theorem q43 P N40 : Q o43 (cnd 156 (E k8 (B42 P N40)) (E k1 (B39 P))) k8 (B43 P N40) := fun _ _ _ _ _ => by kernel_rfl
def L40 (P : PT) : Y k8 := fun x2 x4 x12 H =>
  ∃ (I : Y k8) (μ : NTy k8 (AHeap → Nat)), I x2 x4 x12 H ∧ ∀ y2 y4 y12 G, I y2 y4 y12 G → B43 P (fun z2 z4 z12 G' => I z2 z4 z12 G' ∧ μ z2 z4 z12 G' < μ y2 y4 y12 G) y2 y4 y12 G
theorem l40 P : LQ k8 (L40 P) (B43 P) := fun ⟨_,_,_,_⟩ _ ⟨I, μ, h0, hI⟩ => ⟨apT _ I, apT _ μ, h0, fun ⟨_,_,_,_⟩ _ h => hI _ _ _ _  h⟩
def o44 := O 15466488
def B44 (P : PT) : Y k1 := fun x2 x4 H =>
  L40 P x2 x4 0 H
theorem q44 P : Q o44 (E k8 (L40 P)) k1 (B44 P) := fun _ _ _ _ => by kernel_rfl
def o45 := O 61865978
def B45 (P : PT) : Y k1 := fun x2 x4 H =>
  newK H [(Value.int .i64 4), (Value.int .i64 9)] 28 (fun b1 H2 => apK T0 28 H2 x4 (Value.slice (some ⟨b1, 0, none⟩) 1 (1 + 1)) (fun v3 H4 => AC Tryz.prog T0 60 [(Value.int .i64 10), v3] H4 (fun v5 H6 => agg2 v5 (fun v7 v8 => asI .i64 v7 (fun v9 => stK H6 x2 0 [(Value.int .i64 v9), v8] (fun H11 => ldI .i64 H11 x2 0 (fun v12 => ld1 H11 x2 1 (fun v13 => P (Value.tuple ⟨[(Value.agg ⟨[(Value.int .i64 v12), v13]⟩), (Value.bool true)]⟩) H11))))))))
theorem q45 P : Q o45 (ret P) k1 (B45 P) := fun _ _ _ _ => by kernel_rfl
abbrev k9 : Sk := [(2,.x),(4,.v),(13,J)]
def o47 := O 989855635
def B47 (P : PT) (N46 : Y k9) : Y k9 := fun x2 x4 x13 H =>
  N46 x2 x4 (IntKind.i64.wrap (x13 + 5)) H
theorem q47 P N46 : Q o47 (E k9 N46) k9 (B47 P N46) := fun _ _ _ _ _ => by kernel_rfl
def o48 := O 1979711268
def B48 (P : PT) (N46 : Y k9) : Y k9 := fun x2 x4 x13 H =>
  newK H [(Value.int .i64 x13), (Value.int .i64 (IntKind.i64.wrap (x13 + 2))), (Value.int .i64 x13), (Value.int .i64 (IntKind.i64.wrap (x13 + 3))), (Value.int .i64 (IntKind.i64.wrap (x13 + 1))), (Value.int .i64 (IntKind.i64.wrap (x13 + 2))), (Value.int .i64 (IntKind.i64.wrap (x13 + 1))), (Value.int .i64 (IntKind.i64.wrap (x13 + 3))), (Value.int .i64 (IntKind.i64.wrap (x13 + 2))), (Value.int .i64 (IntKind.i64.wrap (x13 + 3))), (Value.int .i64 x13), (Value.int .i64 (IntKind.i64.wrap (x13 + 4))), (Value.int .i64 (IntKind.i64.wrap (x13 + 1))), (Value.int .i64 (IntKind.i64.wrap (x13 + 4)))] 28 (fun b1 H2 => apK T0 28 H2 x4 (Value.slice (some ⟨b1, 0, none⟩) 7 (7 + 1)) (fun v3 H4 => B47 P N46 x2 v3 x13 H4))
theorem q48 P N46 : Q o48 (E k9 (B47 P N46)) k9 (B48 P N46) := fun _ _ _ _ _ => by kernel_rfl
def o49 := O 989855632
def B49 (P : PT) (N46 : Y k9) : Y k9 := fun x2 x4 x13 H =>
  pif (decide ((x13 : Int) ≤ 5)) (B48 P N46 x2 x4 x13 H) (B45 P x2 x4 H)
theorem q49 P N46 : Q o49 (cnd 184 (E k9 (B48 P N46)) (E k1 (B45 P))) k9 (B49 P N46) := fun _ _ _ _ _ => by kernel_rfl
def L46 (P : PT) : Y k9 := fun x2 x4 x13 H =>
  ∃ (I : Y k9) (μ : NTy k9 (AHeap → Nat)), I x2 x4 x13 H ∧ ∀ y2 y4 y13 G, I y2 y4 y13 G → B49 P (fun z2 z4 z13 G' => I z2 z4 z13 G' ∧ μ z2 z4 z13 G' < μ y2 y4 y13 G) y2 y4 y13 G
theorem l46 P : LQ k9 (L46 P) (B49 P) := fun ⟨_,_,_,_⟩ _ ⟨I, μ, h0, hI⟩ => ⟨apT _ I, apT _ μ, h0, fun ⟨_,_,_,_⟩ _ h => hI _ _ _ _  h⟩
def o50 := O 61865976
def B50 (P : PT) : Y k1 := fun x2 x4 H =>
  L46 P x2 x4 0 H
theorem q50 P : Q o50 (E k9 (L46 P)) k1 (B50 P) := fun _ _ _ _ => by kernel_rfl
abbrev k10 : Sk := [(2,.x),(4,.v),(15,.s)]
def o51 := O 7733246
def B51 (P : PT) : Y k10 := fun x2 x4 x15 H =>
  pif (ByteArray.toList x15 == ByteArray.toList (⟨#[98, 114, 105, 100, 103, 101]⟩)) (B50 P x2 x4 H) (B1 P x2 H)
theorem q51 P : Q o51 (cnd 181 (E k1 (B50 P)) (E k0 (B1 P))) k10 (B51 P) := fun _ _ _ _ _ => by kernel_rfl
def o52 := O 1933310
def B52 (P : PT) : Y k10 := fun x2 x4 x15 H =>
  pif (ByteArray.toList x15 == ByteArray.toList (⟨#[102, 108, 111, 119, 101, 114, 53]⟩)) (B44 P x2 x4 H) (B51 P x2 x4 x15 H)
theorem q52 P : Q o52 (cnd 153 (E k1 (B44 P)) (E k10 (B51 P))) k10 (B52 P) := fun _ _ _ _ _ => by kernel_rfl
def o53 := O 483326
def B53 (P : PT) : Y k10 := fun x2 x4 x15 H =>
  pif (ByteArray.toList x15 == ByteArray.toList (⟨#[116, 105, 101, 116, 122, 101]⟩)) (B37 P x2 x4 H) (B52 P x2 x4 x15 H)
theorem q53 P : Q o53 (cnd 115 (E k1 (B37 P)) (E k10 (B52 P))) k10 (B53 P) := fun _ _ _ _ _ => by kernel_rfl
def o54 := O 120830
def B54 (P : PT) : Y k10 := fun x2 x4 x15 H =>
  pif (ByteArray.toList x15 == ByteArray.toList (⟨#[112, 101, 116, 101, 114, 115, 101, 110]⟩)) (B28 P x2 x4 H) (B53 P x2 x4 x15 H)
theorem q54 P : Q o54 (cnd 88 (E k1 (B28 P)) (E k10 (B53 P))) k10 (B54 P) := fun _ _ _ _ _ => by kernel_rfl
def o55 := O 30206
def B55 (P : PT) : Y k10 := fun x2 x4 x15 H =>
  pif (ByteArray.toList x15 == ByteArray.toList (⟨#[99, 117, 98, 101]⟩)) (B22 P x2 x4 H) (B54 P x2 x4 x15 H)
theorem q55 P : Q o55 (cnd 64 (E k1 (B22 P)) (E k10 (B54 P))) k10 (B55 P) := fun _ _ _ _ _ => by kernel_rfl
def o56 := O 7550
def B56 (P : PT) : Y k10 := fun x2 x4 x15 H =>
  pif (ByteArray.toList x15 == ByteArray.toList (⟨#[112, 114, 105, 115, 109]⟩)) (B11 P x2 x4 H) (B55 P x2 x4 x15 H)
theorem q56 P : Q o56 (cnd 50 (E k1 (B11 P)) (E k10 (B55 P))) k10 (B56 P) := fun _ _ _ _ _ => by kernel_rfl
def o57 := O 1886
def B57 (P : PT) : Y k10 := fun x2 x4 x15 H =>
  pif (ByteArray.toList x15 == ByteArray.toList (⟨#[107, 51, 51]⟩)) (B9 P x2 x4 H) (B56 P x2 x4 x15 H)
theorem q57 P : Q o57 (cnd 33 (E k1 (B9 P)) (E k10 (B56 P))) k10 (B57 P) := fun _ _ _ _ _ => by kernel_rfl
def o58 := O 470
def B58 (P : PT) : Y k10 := fun x2 x4 x15 H =>
  pif (ByteArray.toList x15 == ByteArray.toList (⟨#[107, 52]⟩)) (B3 P x2 H) (B57 P x2 x4 x15 H)
theorem q58 P : Q o58 (cnd 23 (E k0 (B3 P)) (E k10 (B57 P))) k10 (B58 P) := fun _ _ _ _ _ => by kernel_rfl
def o59 := O 116
def B59 (P : PT) : Y k10 := fun x2 x4 x15 H =>
  pif (ByteArray.toList x15 == ByteArray.toList (⟨#[116, 104, 101, 116, 97]⟩)) (B2 P x2 H) (B58 P x2 x4 x15 H)
theorem q59 P : Q o59 (cnd 16 (E k0 (B2 P)) (E k10 (B58 P))) k10 (B59 P) := fun _ _ _ _ _ => by kernel_rfl
abbrev k11 : Sk := [(0,.s),(2,.x),(4,.v)]
def o60 := O 28
def B60 (P : PT) : Y k11 := fun x0 x2 x4 H =>
  B59 P x2 x4 x0 H
theorem q60 P : Q o60 (E k10 (B59 P)) k11 (B60 P) := fun _ _ _ _ _ => by kernel_rfl
abbrev k12 : Sk := [(0,.s),(2,.x)]
def o61 := O 6
def B61 (P : PT) : Y k12 := fun x0 x2 H =>
  newK H [] 28 (fun b1 H2 => B60 P x0 x2 (Value.slice (some ⟨b1, 0, none⟩) 0 (0 + 1)) H2)
theorem q61 P : Q o61 (E k11 (B60 P)) k12 (B61 P) := fun _ _ _ _ => by kernel_rfl
abbrev k13 : Sk := [(0,.s)]
def o62 := O 2
def B62 (P : PT) : Y k13 := fun x0 H =>
  newK H [(Value.int .i64 0), (Value.slice none 0 0)] 31 (fun b1 H2 => B61 P x0 b1 H2)
theorem q62 P : Q o62 (E k12 (B61 P)) k13 (B62 P) := fun _ _ _ => by kernel_rfl
def code : Code := (.seq (R 0 o62) (.seq (R 1 o61) (.seq (.seq (R 2 o60) (.block 0 (.seq (R 3 o59) (.cond (.tmp 16) (.seq (R 4 o2) .ret) (.seq (R 5 o58) (.cond (.tmp 23) (.seq (R 6 o3) .ret) (.seq (R 7 o57) (.cond (.tmp 33) (.seq (.seq (R 8 o9) (.block 1 (.loop (.seq (.seq (R 9 o8) (.cond (.tmp 36) .skip (.exit 1))) (.seq (.block 2 (R 11 o7)) (R 10 o6)))))) (.seq (R 12 o4) .ret)) (.seq (R 13 o56) (.cond (.tmp 50) (.seq (R 14 o11) (.seq (R 15 o10) .ret)) (.seq (R 16 o55) (.cond (.tmp 64) (.seq (.seq (R 17 o22) (.block 3 (.loop (.seq (.seq (R 18 o21) (.cond (.tmp 67) .skip (.exit 3))) (.seq (.block 4 (.seq (R 20 o20) (.block 5 (.loop (.seq (.seq (R 21 o19) (.cond (.tmp 71) .skip (.exit 5))) (.seq (.block 6 (.seq (R 23 o18) (.cond (.tmp 77) (R 24 o17) .skip))) (R 22 o16))))))) (R 19 o14)))))) (.seq (R 25 o12) .ret)) (.seq (R 26 o54) (.cond (.tmp 88) (.seq (.seq (R 27 o28) (.block 7 (.loop (.seq (.seq (R 28 o27) (.cond (.tmp 91) .skip (.exit 7))) (.seq (.block 8 (R 30 o26)) (R 29 o25)))))) (.seq (R 31 o23) .ret)) (.seq (R 32 o53) (.cond (.tmp 115) (.seq (R 33 o37) (.seq (.seq (R 34 o36) (.block 9 (.loop (.seq (.seq (R 35 o35) (.cond (.tmp 125) .skip (.exit 9))) (.seq (.block 10 (.seq (R 37 o34) (.cond (.tmp 134) (R 38 o33) .skip))) (R 36 o32)))))) (.seq (R 39 o30) (.seq (R 40 o29) .ret)))) (.seq (R 41 o52) (.cond (.tmp 153) (.seq (.seq (R 42 o44) (.block 11 (.loop (.seq (.seq (R 43 o43) (.cond (.tmp 156) .skip (.exit 11))) (.seq (.block 12 (R 45 o42)) (R 44 o41)))))) (.seq (R 46 o39) (.seq (R 47 o38) .ret))) (.seq (R 48 o51) (.cond (.tmp 181) (.seq (.seq (R 49 o50) (.block 13 (.loop (.seq (.seq (R 50 o49) (.cond (.tmp 184) .skip (.exit 13))) (.seq (.block 14 (R 52 o48)) (R 51 o47)))))) (.seq (R 53 o45) .ret)) .skip)))))))))))))))))))) (.seq (R 54 o1) .ret))))
theorem body : Tryz.f182.body = some code := by kernel_rfl
theorem main (P : PT) : ∀ env H, (En 228 k13 (B62 P)) env H → AW Tryz.prog T0 code env H (M (ret P)) :=
  (r_seq (b (q62 P)) (r_seq (b (q61 P)) (r_seq (r_seq (b (q60 P)) (r_block (r_seq (b (q59 P)) (r_cond rfl (r_seq (b (q2 P)) r_ret) (r_seq (b (q58 P)) (r_cond rfl (r_seq (b (q3 P)) r_ret) (r_seq (b (q57 P)) (r_cond rfl (r_seq (r_seq (b (q9 P)) (r_block (rL (l5 P) (fun N5 => (r_seq (r_seq (b (q8 P N5)) (r_cond rfl r_skip (r_exit (fun _ _ h => h)))) (r_seq (r_block (b (q7 P N5))) (b (q6 P N5)))))))) (r_seq (b (q4 P)) r_ret)) (r_seq (b (q56 P)) (r_cond rfl (r_seq (b (q11 P)) (r_seq (b (q10 P)) r_ret)) (r_seq (b (q55 P)) (r_cond rfl (r_seq (r_seq (b (q22 P)) (r_block (rL (l13 P) (fun N13 => (r_seq (r_seq (b (q21 P N13)) (r_cond rfl r_skip (r_exit (fun _ _ h => h)))) (r_seq (r_block (r_seq (b (q20 P N13)) (r_block (rL (l15 P N13) (fun N15 => (r_seq (r_seq (b (q19 P N13 N15)) (r_cond rfl r_skip (r_exit (fun _ _ h => h)))) (r_seq (r_block (r_seq (b (q18 P N13 N15)) (r_cond rfl (b (q17 P N13 N15)) r_skip))) (b (q16 P N13 N15))))))))) (b (q14 P N13)))))))) (r_seq (b (q12 P)) r_ret)) (r_seq (b (q54 P)) (r_cond rfl (r_seq (r_seq (b (q28 P)) (r_block (rL (l24 P) (fun N24 => (r_seq (r_seq (b (q27 P N24)) (r_cond rfl r_skip (r_exit (fun _ _ h => h)))) (r_seq (r_block (b (q26 P N24))) (b (q25 P N24)))))))) (r_seq (b (q23 P)) r_ret)) (r_seq (b (q53 P)) (r_cond rfl (r_seq (b (q37 P)) (r_seq (r_seq (b (q36 P)) (r_block (rL (l31 P) (fun N31 => (r_seq (r_seq (b (q35 P N31)) (r_cond rfl r_skip (r_exit (fun _ _ h => h)))) (r_seq (r_block (r_seq (b (q34 P N31)) (r_cond rfl (b (q33 P N31)) r_skip))) (b (q32 P N31)))))))) (r_seq (b (q30 P)) (r_seq (b (q29 P)) r_ret)))) (r_seq (b (q52 P)) (r_cond rfl (r_seq (r_seq (b (q44 P)) (r_block (rL (l40 P) (fun N40 => (r_seq (r_seq (b (q43 P N40)) (r_cond rfl r_skip (r_exit (fun _ _ h => h)))) (r_seq (r_block (b (q42 P N40))) (b (q41 P N40)))))))) (r_seq (b (q39 P)) (r_seq (b (q38 P)) r_ret))) (r_seq (b (q51 P)) (r_cond rfl (r_seq (r_seq (b (q50 P)) (r_block (rL (l46 P) (fun N46 => (r_seq (r_seq (b (q49 P N46)) (r_cond rfl r_skip (r_exit (fun _ _ h => h)))) (r_seq (r_block (b (q48 P N46))) (b (q47 P N46)))))))) (r_seq (b (q45 P)) r_ret)) r_skip)))))))))))))))))))) (r_seq (b (q1 P)) r_ret))))
theorem ac (P : PT) (x0 : ByteArray) (H : AHeap) (h : B62 P x0 H) : AC Tryz.prog T0 182 [(Value.string x0)] H P :=
  r_fn T0_ok (c := code) (n := 228) Tryz.func182 body (by kernel_rfl) (main P) (En_mk (x0, ()) (by kernel_rfl) ⟨by kernel_rfl, trivial⟩ h)

end F182
namespace F183
abbrev E := En 41
abbrev Q := QB Tryz.prog T0 41
def O (k : Nat) := ob Tryz.f183 (pth k)
def ret (P : PT) : EP := retE T0 41 Tryz.f183 P
abbrev k0 : Sk := [(2,.x),(4,.x),(5,.v)]
def o1 := O 30
def B1 (P : PT) : Y k0 := fun x2 x4 x5 H =>
  ldI .i64 H x2 0 (fun v1 => AC Tryz.prog T0 60 [(Value.int .i64 v1), x5] H (fun v2 H3 => agg2 v2 (fun v4 v5 => asI .i64 v4 (fun v6 => stK H3 x4 0 [(Value.int .i64 v6), v5] (fun H8 => ldI .i64 H8 x4 0 (fun v9 => ld1 H8 x4 1 (fun v10 => P (Value.agg ⟨[(Value.int .i64 v9), v10]⟩) H8)))))))
theorem q1 P : Q o1 (ret P) k0 (B1 P) := fun _ _ _ _ _ => by kernel_rfl
abbrev k1 : Sk := [(1,.v),(2,.x),(4,.x),(5,.v),(6,J)]
def o3 := O 467
def B3 (P : PT) (N2 : Y k1) : Y k1 := fun x1 x2 x4 x5 x6 H =>
  N2 x1 x2 x4 x5 (IntKind.i64.wrap (x6 + 1)) H
theorem q3 P N2 : Q o3 (E k1 N2) k1 (B3 P N2) := fun _ _ _ _ _ _ _ => by kernel_rfl
def o4 := O 932
def B4 (P : PT) (N2 : Y k1) : Y k1 := fun x1 x2 x4 x5 x6 H =>
  ld1 H x2 1 (fun v1 => idxK v1 x6 2 (fun b2 o3 => ldI .i64 H b2 o3 (fun v4 => idxK x1 v4 1 (fun b5 o6 => ldI .i64 H b5 o6 (fun v7 => ld1 H x2 1 (fun v8 => idxK v8 x6 2 (fun b9 o10 => ldI .i64 H b9 (o10 + 1) (fun v11 => idxK x1 v11 1 (fun b12 o13 => ldI .i64 H b12 o13 (fun v14 => newK H [(Value.int .i64 v7), (Value.int .i64 v14)] 28 (fun b15 H16 => apK T0 28 H16 x5 (Value.slice (some ⟨b15, 0, none⟩) 1 (1 + 1)) (fun v17 H18 => B3 P N2 x1 x2 x4 v17 x6 H18))))))))))))
theorem q4 (P : PT) (N2 : Y k1) : QD Tryz.prog T0 41 o4 [(0, false), (1, false), (2, false), (3, false), (4, false), (5, false), (6, false), (7, false), (8, false), (9, false), (10, false), (11, false), (12, false), (13, false), (14, false), (15, false), (16, false), (17, false), (18, false), (19, false), (20, false), (21, false), (22, false)] (En 41 k1 (B3 P N2)) k1 (B4 P N2) := fun _ _ _ _ _ _ _  => by kernel_rfl
def o5 := O 464
def B5 (P : PT) (N2 : Y k1) : Y k1 := fun x1 x2 x4 x5 x6 H =>
  ld1 H x2 1 (fun v1 => lenK v1 (fun n2 => pif (decide ((x6 : Int) < (n2 : Int))) (B4 P N2 x1 x2 x4 x5 x6 H) (B1 P x2 x4 x5 H)))
theorem q5 P N2 : Q o5 (cnd 12 (E k1 (B4 P N2)) (E k0 (B1 P))) k1 (B5 P N2) := fun _ _ _ _ _ _ _ => by kernel_rfl
def L2 (P : PT) : Y k1 := fun x1 x2 x4 x5 x6 H =>
  ∃ (I : Y k1) (μ : NTy k1 (AHeap → Nat)), I x1 x2 x4 x5 x6 H ∧ ∀ y1 y2 y4 y5 y6 G, I y1 y2 y4 y5 y6 G → B5 P (fun z1 z2 z4 z5 z6 G' => I z1 z2 z4 z5 z6 G' ∧ μ z1 z2 z4 z5 z6 G' < μ y1 y2 y4 y5 y6 G) y1 y2 y4 y5 y6 G
theorem l2 P : LQ k1 (L2 P) (B5 P) := fun ⟨_,_,_,_,_,_⟩ _ ⟨I, μ, h0, hI⟩ => ⟨apT _ I, apT _ μ, h0, fun ⟨_,_,_,_,_,_⟩ _ h => hI _ _ _ _ _ _  h⟩
abbrev k2 : Sk := [(1,.v),(2,.x),(4,.x),(5,.v)]
def o6 := O 28
def B6 (P : PT) : Y k2 := fun x1 x2 x4 x5 H =>
  L2 P x1 x2 x4 x5 0 H
theorem q6 P : Q o6 (E k1 (L2 P)) k2 (B6 P) := fun _ _ _ _ _ _ => by kernel_rfl
abbrev k3 : Sk := [(1,.v),(2,.x),(4,.x)]
def o7 := O 6
def B7 (P : PT) : Y k3 := fun x1 x2 x4 H =>
  newK H [] 28 (fun b1 H2 => B6 P x1 x2 x4 (Value.slice (some ⟨b1, 0, none⟩) 0 (0 + 1)) H2)
theorem q7 P : Q o7 (E k2 (B6 P)) k3 (B7 P) := fun _ _ _ _ _ => by kernel_rfl
abbrev k4 : Sk := [(0,.g [.i,.v]),(1,.v)]
def o8 := O 2
def B8 (P : PT) : Y k4 := fun x0a x0b x1 H =>
  newK H [(Value.int .i64 x0a), x0b] 31 (fun b1 H2 => newK H2 [(Value.int .i64 0), (Value.slice none 0 0)] 31 (fun b3 H4 => B7 P x1 b1 b3 H4))
theorem q8 P : Q o8 (E k3 (B7 P)) k4 (B8 P) := fun _ _ _ _ _ => by kernel_rfl
def code : Code := (.seq (R 0 o8) (.seq (R 1 o7) (.seq (.seq (R 2 o6) (.block 0 (.loop (.seq (.seq (R 3 o5) (.cond (.tmp 12) .skip (.exit 0))) (.seq (.block 1 (.region 5 ⟨o4⟩ true)) (R 4 o3)))))) (.seq (R 6 o1) .ret))))
theorem body : Tryz.f183.body = some code := by kernel_rfl
theorem main (P : PT) : ∀ env H, (En 41 k4 (B8 P)) env H → AW Tryz.prog T0 code env H (M (ret P)) :=
  (r_seq (b (q8 P)) (r_seq (b (q7 P)) (r_seq (r_seq (b (q6 P)) (r_block (rL (l2 P) (fun N2 => (r_seq (r_seq (b (q5 P N2)) (r_cond rfl r_skip (r_exit (fun _ _ h => h)))) (r_seq (r_block (rD T0_ok mixed [(0, false), (1, false), (2, false), (3, false), (4, false), (5, false), (6, false), (7, false), (8, false), (9, false), (10, false), (11, false), (12, false), (13, false), (14, false), (15, false), (16, false), (17, false), (18, false), (19, false), (20, false), (21, false), (22, false)] (by kernel_rfl) (q4 P N2))) (b (q3 P N2)))))))) (r_seq (b (q1 P)) r_ret))))
theorem ac (P : PT) (x0a : Int) (x0b x1 : Value) (H : AHeap) (h : B8 P x0a x0b x1 H) : AC Tryz.prog T0 183 [(Value.agg ⟨[(Value.int .i64 x0a), x0b]⟩), x1] H P :=
  r_fn T0_ok (c := code) (n := 41) Tryz.func183 body (by kernel_rfl) (main P) (En_mk (x0a, x0b, x1, ()) (by kernel_rfl) ⟨by kernel_rfl, by kernel_rfl, trivial⟩ h)

end F183
namespace F184
abbrev E := En 30
abbrev Q := QB Tryz.prog T0 30
def O (k : Nat) := ob Tryz.f184 (pth k)
def ret (P : PT) : EP := retE T0 30 Tryz.f184 P
abbrev k0 : Sk := [(5,.v)]
def o1 := O 30
def B1 (P : PT) : Y k0 := fun x5 H =>
  P x5 H
theorem q1 P : Q o1 (ret P) k0 (B1 P) := fun _ _ _ => by kernel_rfl
abbrev k1 : Sk := [(0,.v),(1,J),(5,.v),(6,J)]
def o3 := O 467
def B3 (P : PT) (N2 : Y k1) : Y k1 := fun x0 x1 x5 x6 H =>
  N2 x0 x1 x5 (IntKind.i64.wrap (x6 + 1)) H
theorem q3 P N2 : Q o3 (E k1 N2) k1 (B3 P N2) := fun _ _ _ _ _ _ => by kernel_rfl
abbrev k2 : Sk := [(0,.v),(1,J),(5,.v),(6,J),(7,J)]
def o4 := O 1865
def B4 (P : PT) (N2 : Y k1) : Y k2 := fun x0 x1 x5 x6 x7 H =>
  sliceK H 2 x5 none (some (Value.int .i64 x7)) 1 (fun v1 => sliceK H 2 x5 (some (Value.int .i64 x7)) none 1 (fun v2 => (AC Tryz.prog T0 89 [v1] H (fun v3 H4 => (sliceK H4 2 x5 (some (Value.int .i64 x7)) none 1 (fun v6 => (v6 = v2) ∧ (H4 = H4))) ∧ (newK H4 [(Value.int .i64 x6)] 2 (fun b7 H8 => apK T0 2 H8 v3 (Value.slice (some ⟨b7, 0, none⟩) 1 (1 + 1)) (fun v9 H10 => (sliceK H10 2 x5 (some (Value.int .i64 x7)) none 1 (fun v11 => (v11 = v2) ∧ (H10 = H10))) ∧ (apK T0 2 H10 v9 v2 (fun v12 H13 => B3 P N2 x0 x1 v12 x6 H13))))))) ∧ (newK H [(Value.int .i64 x6)] 2 (fun b14 H15 => AC Tryz.prog T0 89 [v1] H15 (fun v16 H17 => (sliceK H17 2 x5 (some (Value.int .i64 x7)) none 1 (fun v19 => (v19 = v2) ∧ (H17 = H17))) ∧ (apK T0 2 H17 v16 (Value.slice (some ⟨b14, 0, none⟩) 1 (1 + 1)) (fun v20 H21 => (sliceK H21 2 x5 (some (Value.int .i64 x7)) none 1 (fun v22 => (v22 = v2) ∧ (H21 = H21))) ∧ (apK T0 2 H21 v20 v2 (fun v23 H24 => B3 P N2 x0 x1 v23 x6 H24)))))))))
theorem q4 (P : PT) (N2 : Y k1) : QT Tryz.prog T0 30 o4 (.op 0 [] (.op 1 [] (.op 2 [] (.op 4 [] (.op 7 [] (.op 8 [] (.op 9 [] (.alt (.op 3 [9] (.op 5 [] (.op 6 [9] (.op 10 [] (.op 11 [] .done))))) (.op 5 [] (.op 3 [9] (.op 6 [9] (.op 10 [] (.op 11 [] .done))))))))))))) (En 30 k1 (B3 P N2)) k2 (B4 P N2) := fun _ _ _ _ _ _ _  => by kernel_rfl
def o5 := O 1864
def B5 (P : PT) (N2 : Y k1) : Y k1 := fun x0 x1 x5 x6 H =>
  AC Tryz.prog T0 88 [x0, (Value.int .i64 (IntKind.i64.wrap (x6 + 1)))] H (fun v1 H2 => asI .i64 v1 (fun v3 => B4 P N2 x0 x1 x5 x6 v3 H2))
theorem q5 P N2 : Q o5 (E k2 (B4 P N2)) k1 (B5 P N2) := fun _ _ _ _ _ _ => by kernel_rfl
def o6 := O 464
def B6 (P : PT) (N2 : Y k1) : Y k1 := fun x0 x1 x5 x6 H =>
  pif (decide ((x6 : Int) < x1)) (B5 P N2 x0 x1 x5 x6 H) (B1 P x5 H)
theorem q6 P N2 : Q o6 (cnd 11 (E k1 (B5 P N2)) (E k0 (B1 P))) k1 (B6 P N2) := fun _ _ _ _ _ _ => by kernel_rfl
def L2 (P : PT) : Y k1 := fun x0 x1 x5 x6 H =>
  ∃ (I : Y k1) (μ : NTy k1 (AHeap → Nat)), I x0 x1 x5 x6 H ∧ ∀ y0 y1 y5 y6 G, I y0 y1 y5 y6 G → B6 P (fun z0 z1 z5 z6 G' => I z0 z1 z5 z6 G' ∧ μ z0 z1 z5 z6 G' < μ y0 y1 y5 y6 G) y0 y1 y5 y6 G
theorem l2 P : LQ k1 (L2 P) (B6 P) := fun ⟨_,_,_,_,_⟩ _ ⟨I, μ, h0, hI⟩ => ⟨apT _ I, apT _ μ, h0, fun ⟨_,_,_,_,_⟩ _ h => hI _ _ _ _ _  h⟩
abbrev k3 : Sk := [(0,.v),(1,J),(5,.v)]
def o7 := O 28
def B7 (P : PT) : Y k3 := fun x0 x1 x5 H =>
  L2 P x0 x1 x5 0 H
theorem q7 P : Q o7 (E k1 (L2 P)) k3 (B7 P) := fun _ _ _ _ _ => by kernel_rfl
abbrev k4 : Sk := [(0,.v),(1,J)]
def o8 := O 6
def B8 (P : PT) : Y k4 := fun x0 x1 H =>
  newK H [] 2 (fun b1 H2 => B7 P x0 x1 (Value.slice (some ⟨b1, 0, none⟩) 0 (0 + 1)) H2)
theorem q8 P : Q o8 (E k3 (B7 P)) k4 (B8 P) := fun _ _ _ _ => by kernel_rfl
def o9 := O 2
def B9 (P : PT) : Y k4 := fun x0 x1 H =>
  B8 P x0 x1 H
theorem q9 P : Q o9 (E k4 (B8 P)) k4 (B9 P) := fun _ _ _ _ => by kernel_rfl
def code : Code := (.seq (R 0 o9) (.seq (R 1 o8) (.seq (.seq (R 2 o7) (.block 0 (.loop (.seq (.seq (R 3 o6) (.cond (.tmp 11) .skip (.exit 0))) (.seq (.block 1 (.seq (R 5 o5) (.region 6 ⟨o4⟩ true))) (R 4 o3)))))) (.seq (R 7 o1) .ret))))
theorem body : Tryz.f184.body = some code := by kernel_rfl
theorem main (P : PT) : ∀ env H, (En 30 k4 (B9 P)) env H → AW Tryz.prog T0 code env H (M (ret P)) :=
  (r_seq (b (q9 P)) (r_seq (b (q8 P)) (r_seq (r_seq (b (q7 P)) (r_block (rL (l2 P) (fun N2 => (r_seq (r_seq (b (q6 P N2)) (r_cond rfl r_skip (r_exit (fun _ _ h => h)))) (r_seq (r_block (r_seq (b (q5 P N2)) (rT T0_ok mixed (.op 0 [] (.op 1 [] (.op 2 [] (.op 4 [] (.op 7 [] (.op 8 [] (.op 9 [] (.alt (.op 3 [9] (.op 5 [] (.op 6 [9] (.op 10 [] (.op 11 [] .done))))) (.op 5 [] (.op 3 [9] (.op 6 [9] (.op 10 [] (.op 11 [] .done))))))))))))) (by kernel_rfl) (q4 P N2)))) (b (q3 P N2)))))))) (r_seq (b (q1 P)) r_ret))))
theorem ac (P : PT) (x0 : Value) (x1 : Int) (H : AHeap) (h : B9 P x0 x1 H) : AC Tryz.prog T0 184 [x0, (Value.int .i64 x1)] H P :=
  r_fn T0_ok (c := code) (n := 30) Tryz.func184 body (by kernel_rfl) (main P) (En_mk (x0, x1, ()) (by kernel_rfl) ⟨by kernel_rfl, by kernel_rfl, trivial⟩ h)

end F184
namespace F185
abbrev E := En 87
abbrev Q := QB Tryz.prog T0 87
def O (k : Nat) := ob Tryz.f185 (pth k)
def ret (P : PT) : EP := retE T0 87 Tryz.f185 P
abbrev k0 : Sk := [(1,J),(4,.x),(12,.v)]
def o1 := O 62
def B1 (P : PT) : Y k0 := fun x1 x4 x12 H =>
  AC Tryz.prog T0 60 [(Value.int .i64 x1), x12] H (fun v1 H2 => agg2 v1 (fun v3 v4 => asI .i64 v3 (fun v5 => stK H2 x4 0 [(Value.int .i64 v5), v4] (fun H7 => ldI .i64 H7 x4 0 (fun v8 => ld1 H7 x4 1 (fun v9 => P (Value.agg ⟨[(Value.int .i64 v8), v9]⟩) H7))))))
theorem q1 P : Q o1 (ret P) k0 (B1 P) := fun _ _ _ _ _ => by kernel_rfl
abbrev k1 : Sk := [(1,J),(4,.x),(12,.v),(13,J)]
def o3 := O 979
def B3 (P : PT) (N2 : Y k1) : Y k1 := fun x1 x4 x12 x13 H =>
  N2 x1 x4 x12 (IntKind.i64.wrap (x13 + 1)) H
theorem q3 P N2 : Q o3 (E k1 N2) k1 (B3 P N2) := fun _ _ _ _ _ _ => by kernel_rfl
def o4 := O 15654
def B4 (P : PT) (N2 : Y k1) : Y k1 := fun x1 x4 x12 x13 H =>
  newK H [(Value.int .i64 x13), (Value.int .i64 (IntKind.i64.wrap (x13 + (IntKind.i64.wrap (Int.tdiv x1 2)))))] 28 (fun b1 H2 => apK T0 28 H2 x12 (Value.slice (some ⟨b1, 0, none⟩) 1 (1 + 1)) (fun v3 H4 => B3 P N2 x1 x4 v3 x13 H4))
theorem q4 P N2 : Q o4 (E k1 (B3 P N2)) k1 (B4 P N2) := fun _ _ _ _ _ _ => by kernel_rfl
def o5 := O 7826
def B5 (P : PT) (N2 : Y k1) : Y k1 := fun x1 x4 x12 x13 H =>
  pif (decide ((x13 : Int) < (IntKind.i64.wrap (Int.tdiv x1 2)))) (B4 P N2 x1 x4 x12 x13 H) (B3 P N2 x1 x4 x12 x13 H)
theorem q5 P N2 : Q o5 (cnd 74 (E k1 (B4 P N2)) (E k1 (B3 P N2))) k1 (B5 P N2) := fun _ _ _ _ _ _ => by kernel_rfl
def o6 := O 3912
def B6 (P : PT) (N2 : Y k1) : Y k1 := fun x1 x4 x12 x13 H =>
  nzK x1 (newK H [(Value.int .i64 x13), (Value.int .i64 (Int.tmod (IntKind.i64.wrap (x13 + 1)) x1))] 28 (fun b1 H2 => apK T0 28 H2 x12 (Value.slice (some ⟨b1, 0, none⟩) 1 (1 + 1)) (fun v3 H4 => B5 P N2 x1 x4 v3 x13 H4)))
theorem q6 P N2 : Q o6 (E k1 (B5 P N2)) k1 (B6 P N2) := fun _ _ _ _ _ _ => by kernel_rfl
def o7 := O 976
def B7 (P : PT) (N2 : Y k1) : Y k1 := fun x1 x4 x12 x13 H =>
  pif (decide ((x13 : Int) < x1)) (B6 P N2 x1 x4 x12 x13 H) (B1 P x1 x4 x12 H)
theorem q7 P N2 : Q o7 (cnd 59 (E k1 (B6 P N2)) (E k0 (B1 P))) k1 (B7 P N2) := fun _ _ _ _ _ _ => by kernel_rfl
def L2 (P : PT) : Y k1 := fun x1 x4 x12 x13 H =>
  ∃ (I : Y k1) (μ : NTy k1 (AHeap → Nat)), I x1 x4 x12 x13 H ∧ ∀ y1 y4 y12 y13 G, I y1 y4 y12 y13 G → B7 P (fun z1 z4 z12 z13 G' => I z1 z4 z12 z13 G' ∧ μ z1 z4 z12 z13 G' < μ y1 y4 y12 y13 G) y1 y4 y12 y13 G
theorem l2 P : LQ k1 (L2 P) (B7 P) := fun ⟨_,_,_,_,_⟩ _ ⟨I, μ, h0, hI⟩ => ⟨apT _ I, apT _ μ, h0, fun ⟨_,_,_,_,_⟩ _ h => hI _ _ _ _ _  h⟩
def o8 := O 60
def B8 (P : PT) : Y k0 := fun x1 x4 x12 H =>
  L2 P x1 x4 x12 0 H
theorem q8 P : Q o8 (E k1 (L2 P)) k0 (B8 P) := fun _ _ _ _ _ => by kernel_rfl
abbrev k2 : Sk := [(1,J),(4,.x)]
def o9 := O 14
def B9 (P : PT) : Y k2 := fun x1 x4 H =>
  newK H [] 28 (fun b1 H2 => B8 P x1 x4 (Value.slice (some ⟨b1, 0, none⟩) 0 (0 + 1)) H2)
theorem q9 P : Q o9 (E k0 (B8 P)) k2 (B9 P) := fun _ _ _ _ => by kernel_rfl
abbrev k3 : Sk := [(0,.v),(1,J),(4,.x),(5,J)]
def o11 := O 211
def B11 (P : PT) (N10 : Y k3) : Y k3 := fun x0 x1 x4 x5 H =>
  N10 x0 x1 x4 (IntKind.i64.wrap (x5 + 1)) H
theorem q11 P N10 : Q o11 (E k3 N10) k3 (B11 P N10) := fun _ _ _ _ _ _ => by kernel_rfl
abbrev k4 : Sk := [(1,J),(4,.x),(7,.v)]
def o12 := O 13468
def B12 (P : PT) (N10 : Y k3) : Y k4 := fun x1 x4 x7 H =>
  AC Tryz.prog T0 60 [(Value.int .i64 x1), x7] H (fun v1 H2 => agg2 v1 (fun v3 v4 => asI .i64 v3 (fun v5 => stK H2 x4 0 [(Value.int .i64 v5), v4] (fun H7 => ldI .i64 H7 x4 0 (fun v8 => ld1 H7 x4 1 (fun v9 => P (Value.agg ⟨[(Value.int .i64 v8), v9]⟩) H7))))))
theorem q12 P N10 : Q o12 (ret P) k4 (B12 P N10) := fun _ _ _ _ _ => by kernel_rfl
abbrev k5 : Sk := [(0,.v),(1,J),(4,.x),(5,J),(7,.v),(8,.b)]
def o13 := O 3366
def B13 (P : PT) (N10 : Y k3) : Y k5 := fun x0 x1 x4 x5 x7 x8 H =>
  pif x8 (B12 P N10 x1 x4 x7 H) (B11 P N10 x0 x1 x4 x5 H)
theorem q13 P N10 : Q o13 (cnd 52 (E k4 (B12 P N10)) (E k3 (B11 P N10))) k5 (B13 P N10) := fun _ _ _ _ _ _ _ _ => by kernel_rfl
abbrev k6 : Sk := [(0,.v),(1,J),(4,.x),(5,J),(6,.v),(7,.v),(8,.b),(9,J)]
def o15 := O 53843
def B15 (P : PT) (N10 : Y k3) (N14 : Y k6) : Y k6 := fun x0 x1 x4 x5 x6 x7 x8 x9 H =>
  N14 x0 x1 x4 x5 x6 x7 x8 (IntKind.i64.wrap (x9 + 2)) H
theorem q15 P N10 N14 : Q o15 (E k6 N14) k6 (B15 P N10 N14) := fun _ _ _ _ _ _ _ _ _ _ => by kernel_rfl
abbrev k7 : Sk := [(0,.v),(1,J),(4,.x),(5,J),(6,.v),(7,.v),(8,.b),(9,J),(10,J),(11,J)]
def o16 := O 430739
def B16 (P : PT) (N10 : Y k3) (N14 : Y k6) : Y k7 := fun x0 x1 x4 x5 x6 x7 x8 x9 x10 x11 H =>
  pif x8 (B15 P N10 N14 x0 x1 x4 x5 x6 x7 ((x10 : Int) != x11) x9 H) (B15 P N10 N14 x0 x1 x4 x5 x6 x7 false x9 H)
theorem q16 P N10 N14 : Q o16 (E k6 (B15 P N10 N14)) k7 (B16 P N10 N14) := fun _ _ _ _ _ _ _ _ _ _ _ _ => by kernel_rfl
def o17 := O 430738
def B17 (P : PT) (N10 : Y k3) (N14 : Y k6) : Y k7 := fun x0 x1 x4 x5 x6 x7 x8 x9 x10 x11 H =>
  newK H [(Value.int .i64 x10), (Value.int .i64 x11)] 28 (fun b1 H2 => apK T0 28 H2 x7 (Value.slice (some ⟨b1, 0, none⟩) 1 (1 + 1)) (fun v3 H4 => B16 P N10 N14 x0 x1 x4 x5 x6 v3 x8 x9 x10 x11 H4))
theorem q17 P N10 N14 : Q o17 (E k7 (B16 P N10 N14)) k7 (B17 P N10 N14) := fun _ _ _ _ _ _ _ _ _ _ _ _ => by kernel_rfl
def o18 := O 215368
def B18 (P : PT) (N10 : Y k3) (N14 : Y k6) : Y k6 := fun x0 x1 x4 x5 x6 x7 x8 x9 H =>
  idxK x6 x9 1 (fun b1 o2 => ldI .i64 H b1 o2 (fun v3 => idxK x6 (IntKind.i64.wrap (x9 + 1)) 1 (fun b4 o5 => ldI .i64 H b4 o5 (fun v6 => B17 P N10 N14 x0 x1 x4 x5 x6 x7 x8 x9 (IntKind.i64.wrap (Int.tdiv v3 3)) (IntKind.i64.wrap (Int.tdiv v6 3)) H))))
theorem q18 (P : PT) (N10 : Y k3) (N14 : Y k6) : QD Tryz.prog T0 87 o18 [(0, false), (1, false), (2, false), (3, false), (4, false), (5, false), (6, false), (7, false), (8, false), (9, false), (10, false), (11, false), (12, false)] (En 87 k7 (B17 P N10 N14)) k6 (B18 P N10 N14) := fun _ _ _ _ _ _ _ _ _ _  => by kernel_rfl
def o19 := O 53840
def B19 (P : PT) (N10 : Y k3) (N14 : Y k6) : Y k6 := fun x0 x1 x4 x5 x6 x7 x8 x9 H =>
  lenK x6 (fun n1 => pif (decide ((x9 : Int) < (n1 : Int))) (B18 P N10 N14 x0 x1 x4 x5 x6 x7 x8 x9 H) (B13 P N10 x0 x1 x4 x5 x7 x8 H))
theorem q19 P N10 N14 : Q o19 (cnd 26 (E k6 (B18 P N10 N14)) (E k5 (B13 P N10))) k6 (B19 P N10 N14) := fun _ _ _ _ _ _ _ _ _ _ => by kernel_rfl
def L14 (P : PT) (N10 : Y k3) : Y k6 := fun x0 x1 x4 x5 x6 x7 x8 x9 H =>
  ∃ (I : Y k6) (μ : NTy k6 (AHeap → Nat)), I x0 x1 x4 x5 x6 x7 x8 x9 H ∧ ∀ y0 y1 y4 y5 y6 y7 y8 y9 G, I y0 y1 y4 y5 y6 y7 y8 y9 G → B19 P N10 (fun z0 z1 z4 z5 z6 z7 z8 z9 G' => I z0 z1 z4 z5 z6 z7 z8 z9 G' ∧ μ z0 z1 z4 z5 z6 z7 z8 z9 G' < μ y0 y1 y4 y5 y6 y7 y8 y9 G) y0 y1 y4 y5 y6 y7 y8 y9 G
theorem l14 P N10 : LQ k6 (L14 P N10) (B19 P N10) := fun ⟨_,_,_,_,_,_,_,_,_⟩ _ ⟨I, μ, h0, hI⟩ => ⟨apT _ I, apT _ μ, h0, fun ⟨_,_,_,_,_,_,_,_,_⟩ _ h => hI _ _ _ _ _ _ _ _ _  h⟩
abbrev k8 : Sk := [(0,.v),(1,J),(4,.x),(5,J),(6,.v),(7,.v),(8,.b)]
def o20 := O 3364
def B20 (P : PT) (N10 : Y k3) : Y k8 := fun x0 x1 x4 x5 x6 x7 x8 H =>
  L14 P N10 x0 x1 x4 x5 x6 x7 x8 0 H
theorem q20 P N10 : Q o20 (E k6 (L14 P N10)) k8 (B20 P N10) := fun _ _ _ _ _ _ _ _ _ => by kernel_rfl
def o21 := O 840
def B21 (P : PT) (N10 : Y k3) : Y k3 := fun x0 x1 x4 x5 H =>
  AC Tryz.prog T0 184 [x0, (Value.int .i64 (IntKind.i64.wrap (3 * x1)))] H (fun v1 H2 => newK H2 [] 28 (fun b4 H5 => B20 P N10 x0 x1 x4 x5 v1 (Value.slice (some ⟨b4, 0, none⟩) 0 (0 + 1)) true H5))
theorem q21 P N10 : Q o21 (E k8 (B20 P N10)) k3 (B21 P N10) := fun _ _ _ _ _ _ => by kernel_rfl
def o22 := O 208
def B22 (P : PT) (N10 : Y k3) : Y k3 := fun x0 x1 x4 x5 H =>
  pif (decide ((x5 : Int) < 20)) (B21 P N10 x0 x1 x4 x5 H) (B9 P x1 x4 H)
theorem q22 P N10 : Q o22 (cnd 15 (E k3 (B21 P N10)) (E k2 (B9 P))) k3 (B22 P N10) := fun _ _ _ _ _ _ => by kernel_rfl
def L10 (P : PT) : Y k3 := fun x0 x1 x4 x5 H =>
  ∃ (I : Y k3) (μ : NTy k3 (AHeap → Nat)), I x0 x1 x4 x5 H ∧ ∀ y0 y1 y4 y5 G, I y0 y1 y4 y5 G → B22 P (fun z0 z1 z4 z5 G' => I z0 z1 z4 z5 G' ∧ μ z0 z1 z4 z5 G' < μ y0 y1 y4 y5 G) y0 y1 y4 y5 G
theorem l10 P : LQ k3 (L10 P) (B22 P) := fun ⟨_,_,_,_,_⟩ _ ⟨I, μ, h0, hI⟩ => ⟨apT _ I, apT _ μ, h0, fun ⟨_,_,_,_,_⟩ _ h => hI _ _ _ _ _  h⟩
abbrev k9 : Sk := [(0,.v),(1,J),(4,.x)]
def o23 := O 12
def B23 (P : PT) : Y k9 := fun x0 x1 x4 H =>
  L10 P x0 x1 x4 0 H
theorem q23 P : Q o23 (E k3 (L10 P)) k9 (B23 P) := fun _ _ _ _ _ => by kernel_rfl
abbrev k10 : Sk := [(0,.v),(1,J)]
def o24 := O 2
def B24 (P : PT) : Y k10 := fun x0 x1 H =>
  newK H [(Value.int .i64 0), (Value.slice none 0 0)] 31 (fun b1 H2 => B23 P x0 x1 b1 H2)
theorem q24 P : Q o24 (E k9 (B23 P)) k10 (B24 P) := fun _ _ _ _ => by kernel_rfl
def code : Code := (.seq (R 0 o24) (.seq (.seq (R 1 o23) (.block 0 (.loop (.seq (.seq (R 2 o22) (.cond (.tmp 15) .skip (.exit 0))) (.seq (.block 1 (.seq (R 4 o21) (.seq (.seq (R 5 o20) (.block 2 (.loop (.seq (.seq (R 6 o19) (.cond (.tmp 26) .skip (.exit 2))) (.seq (.block 3 (.seq (.region 8 ⟨o18⟩ true) (.seq (R 9 o17) (R 10 o16)))) (R 7 o15)))))) (.seq (R 11 o13) (.cond (.tmp 52) (.seq (R 12 o12) .ret) .skip))))) (R 3 o11)))))) (.seq (R 13 o9) (.seq (.seq (R 14 o8) (.block 4 (.loop (.seq (.seq (R 15 o7) (.cond (.tmp 59) .skip (.exit 4))) (.seq (.block 5 (.seq (R 17 o6) (.seq (R 18 o5) (.cond (.tmp 74) (R 19 o4) .skip)))) (R 16 o3)))))) (.seq (R 20 o1) .ret)))))
theorem body : Tryz.f185.body = some code := by kernel_rfl
theorem main (P : PT) : ∀ env H, (En 87 k10 (B24 P)) env H → AW Tryz.prog T0 code env H (M (ret P)) :=
  (r_seq (b (q24 P)) (r_seq (r_seq (b (q23 P)) (r_block (rL (l10 P) (fun N10 => (r_seq (r_seq (b (q22 P N10)) (r_cond rfl r_skip (r_exit (fun _ _ h => h)))) (r_seq (r_block (r_seq (b (q21 P N10)) (r_seq (r_seq (b (q20 P N10)) (r_block (rL (l14 P N10) (fun N14 => (r_seq (r_seq (b (q19 P N10 N14)) (r_cond rfl r_skip (r_exit (fun _ _ h => h)))) (r_seq (r_block (r_seq (rD T0_ok mixed [(0, false), (1, false), (2, false), (3, false), (4, false), (5, false), (6, false), (7, false), (8, false), (9, false), (10, false), (11, false), (12, false)] (by kernel_rfl) (q18 P N10 N14)) (r_seq (b (q17 P N10 N14)) (b (q16 P N10 N14))))) (b (q15 P N10 N14)))))))) (r_seq (b (q13 P N10)) (r_cond rfl (r_seq (b (q12 P N10)) r_ret) r_skip))))) (b (q11 P N10)))))))) (r_seq (b (q9 P)) (r_seq (r_seq (b (q8 P)) (r_block (rL (l2 P) (fun N2 => (r_seq (r_seq (b (q7 P N2)) (r_cond rfl r_skip (r_exit (fun _ _ h => h)))) (r_seq (r_block (r_seq (b (q6 P N2)) (r_seq (b (q5 P N2)) (r_cond rfl (b (q4 P N2)) r_skip)))) (b (q3 P N2)))))))) (r_seq (b (q1 P)) r_ret)))))
theorem ac (P : PT) (x0 : Value) (x1 : Int) (H : AHeap) (h : B24 P x0 x1 H) : AC Tryz.prog T0 185 [x0, (Value.int .i64 x1)] H P :=
  r_fn T0_ok (c := code) (n := 87) Tryz.func185 body (by kernel_rfl) (main P) (En_mk (x0, x1, ()) (by kernel_rfl) ⟨by kernel_rfl, by kernel_rfl, trivial⟩ h)

end F185
namespace F188
abbrev E := En 2
abbrev Q := QB Tryz.prog T0 2
def O (k : Nat) := ob Tryz.f188 (pth k)
def ret (P : PT) : EP := retE T0 2 Tryz.f188 P
abbrev k0 : Sk := []
def o1 := O 6
def B1 (P : PT) : Y k0 := fun H =>
  newK H [(Value.string (⟨#[116, 104, 101, 116, 97]⟩)), (Value.string (⟨#[107, 52]⟩)), (Value.string (⟨#[107, 51, 51]⟩)), (Value.string (⟨#[112, 114, 105, 115, 109]⟩)), (Value.string (⟨#[99, 117, 98, 101]⟩)), (Value.string (⟨#[112, 101, 116, 101, 114, 115, 101, 110]⟩)), (Value.string (⟨#[116, 105, 101, 116, 122, 101]⟩)), (Value.string (⟨#[102, 108, 111, 119, 101, 114, 53]⟩)), (Value.string (⟨#[98, 114, 105, 100, 103, 101]⟩))] 9 (fun b1 H2 => P (Value.slice (some ⟨b1, 0, none⟩) 9 (9 + 1)) H2)
theorem q1 P : Q o1 (ret P) k0 (B1 P) := fun _ _ => by kernel_rfl
def o2 := O 2
def B2 (P : PT) : Y k0 := fun H =>
  B1 P H
theorem q2 P : Q o2 (E k0 (B1 P)) k0 (B2 P) := fun _ _ => by kernel_rfl
def code : Code := (.seq (R 0 o2) (.seq (R 1 o1) .ret))
theorem body : Tryz.f188.body = some code := by kernel_rfl
theorem main (P : PT) : ∀ env H, (En 2 k0 (B2 P)) env H → AW Tryz.prog T0 code env H (M (ret P)) :=
  (r_seq (b (q2 P)) (r_seq (b (q1 P)) r_ret))
theorem ac (P : PT) (H : AHeap) (h : B2 P H) : AC Tryz.prog T0 188 [] H P :=
  r_fn T0_ok (c := code) (n := 2) Tryz.func188 body (by kernel_rfl) (main P) (En_mk (()) (by kernel_rfl) trivial h)

end F188
end
end Go.Proofs
