import Derived.Test.YtngacbdogjmpaaaGreatDoorX33S
set_option linter.unusedVariables false
set_option maxRecDepth 100000
namespace Go.Proofs
open Go.Abs
noncomputable section
namespace F189
abbrev E := En 47
abbrev Q := QB Tryz.prog T0 47
def O (k : Nat) := ob Tryz.f189 (pth k)
def ret (P : PT) : EP := retE T0 47 Tryz.f189 P
abbrev k0 : Sk := [(2,.x),(3,.x),(4,.x),(5,.v)]
def o1 := O 30
def B1 (P : PT) : Y k0 := fun x2 x3 x4 x5 H =>
  ldI .i64 H x2 0 (fun v1 => ldI .i64 H x3 0 (fun v2 => AC Tryz.prog T0 60 [(Value.int .i64 (IntKind.i64.wrap (v1 + v2))), x5] H (fun v3 H4 => agg2 v3 (fun v5 v6 => asI .i64 v5 (fun v7 => stK H4 x4 0 [(Value.int .i64 v7), v6] (fun H9 => ldI .i64 H9 x4 0 (fun v10 => ld1 H9 x4 1 (fun v11 => P (Value.agg ⟨[(Value.int .i64 v10), v11]⟩) H9))))))))
theorem q1 P : Q o1 (ret P) k0 (B1 P) := fun _ _ _ _ _ _ => by kernel_rfl
abbrev k1 : Sk := [(2,.x),(3,.x),(4,.x),(5,.v),(6,J)]
def o3 := O 467
def B3 (P : PT) (N2 : Y k1) : Y k1 := fun x2 x3 x4 x5 x6 H =>
  N2 x2 x3 x4 x5 (IntKind.i64.wrap (x6 + 1)) H
theorem q3 P N2 : Q o3 (E k1 N2) k1 (B3 P N2) := fun _ _ _ _ _ _ _ => by kernel_rfl
def o4 := O 932
def B4 (P : PT) (N2 : Y k1) : Y k1 := fun x2 x3 x4 x5 x6 H =>
  ld1 H x3 1 (fun v1 => idxK v1 x6 2 (fun b2 o3 => ldI .i64 H b2 o3 (fun v4 => ldI .i64 H x2 0 (fun v5 => ld1 H x3 1 (fun v6 => idxK v6 x6 2 (fun b7 o8 => ldI .i64 H b7 (o8 + 1) (fun v9 => ldI .i64 H x2 0 (fun v10 => newK H [(Value.int .i64 (IntKind.i64.wrap (v4 + v5))), (Value.int .i64 (IntKind.i64.wrap (v9 + v10)))] 28 (fun b11 H12 => apK T0 28 H12 x5 (Value.slice (some ⟨b11, 0, none⟩) 1 (1 + 1)) (fun v13 H14 => B3 P N2 x2 x3 x4 v13 x6 H14))))))))))
theorem q4 (P : PT) (N2 : Y k1) : QD Tryz.prog T0 47 o4 [(0, false), (1, false), (2, false), (3, false), (4, false), (5, false), (6, false), (7, false), (8, false), (9, false), (10, false), (11, false), (12, false), (13, false), (14, false), (15, false), (16, false), (17, false), (18, false), (19, false), (20, false), (21, false), (22, false)] (En 47 k1 (B3 P N2)) k1 (B4 P N2) := fun _ _ _ _ _ _ _  => by kernel_rfl
def o5 := O 464
def B5 (P : PT) (N2 : Y k1) : Y k1 := fun x2 x3 x4 x5 x6 H =>
  ld1 H x3 1 (fun v1 => lenK v1 (fun n2 => pif (decide ((x6 : Int) < (n2 : Int))) (B4 P N2 x2 x3 x4 x5 x6 H) (B1 P x2 x3 x4 x5 H)))
theorem q5 P N2 : Q o5 (cnd 15 (E k1 (B4 P N2)) (E k0 (B1 P))) k1 (B5 P N2) := fun _ _ _ _ _ _ _ => by kernel_rfl
def L2 (P : PT) : Y k1 := fun x2 x3 x4 x5 x6 H =>
  ∃ (I : Y k1) (μ : NTy k1 (AHeap → Nat)), I x2 x3 x4 x5 x6 H ∧ ∀ y2 y3 y4 y5 y6 G, I y2 y3 y4 y5 y6 G → B5 P (fun z2 z3 z4 z5 z6 G' => I z2 z3 z4 z5 z6 G' ∧ μ z2 z3 z4 z5 z6 G' < μ y2 y3 y4 y5 y6 G) y2 y3 y4 y5 y6 G
theorem l2 P : LQ k1 (L2 P) (B5 P) := fun ⟨_,_,_,_,_,_⟩ _ ⟨I, μ, h0, hI⟩ => ⟨apT _ I, apT _ μ, h0, fun ⟨_,_,_,_,_,_⟩ _ h => hI _ _ _ _ _ _  h⟩
def o6 := O 28
def B6 (P : PT) : Y k0 := fun x2 x3 x4 x5 H =>
  L2 P x2 x3 x4 x5 0 H
theorem q6 P : Q o6 (E k1 (L2 P)) k0 (B6 P) := fun _ _ _ _ _ _ => by kernel_rfl
abbrev k2 : Sk := [(2,.x),(3,.x),(4,.x)]
def o7 := O 6
def B7 (P : PT) : Y k2 := fun x2 x3 x4 H =>
  newK H [] 28 (fun b1 H2 => ld1 H2 x2 1 (fun v3 => apK T0 28 H2 (Value.slice (some ⟨b1, 0, none⟩) 0 (0 + 1)) v3 (fun v4 H5 => B6 P x2 x3 x4 v4 H5)))
theorem q7 P : Q o7 (E k0 (B6 P)) k2 (B7 P) := fun _ _ _ _ _ => by kernel_rfl
abbrev k3 : Sk := [(0,.g [.i,.v]),(1,.g [.i,.v])]
def o8 := O 2
def B8 (P : PT) : Y k3 := fun x0a x0b x1a x1b H =>
  newK H [(Value.int .i64 x0a), x0b] 31 (fun b1 H2 => newK H2 [(Value.int .i64 x1a), x1b] 31 (fun b3 H4 => newK H4 [(Value.int .i64 0), (Value.slice none 0 0)] 31 (fun b5 H6 => B7 P b1 b3 b5 H6)))
theorem q8 P : Q o8 (E k2 (B7 P)) k3 (B8 P) := fun _ _ _ _ _ _ => by kernel_rfl
def code : Code := (.seq (R 0 o8) (.seq (R 1 o7) (.seq (.seq (R 2 o6) (.block 0 (.loop (.seq (.seq (R 3 o5) (.cond (.tmp 15) .skip (.exit 0))) (.seq (.block 1 (.region 5 ⟨o4⟩ true)) (R 4 o3)))))) (.seq (R 6 o1) .ret))))
theorem body : Tryz.f189.body = some code := by kernel_rfl
theorem main (P : PT) : ∀ env H, (En 47 k3 (B8 P)) env H → AW Tryz.prog T0 code env H (M (ret P)) :=
  (r_seq (b (q8 P)) (r_seq (b (q7 P)) (r_seq (r_seq (b (q6 P)) (r_block (rL (l2 P) (fun N2 => (r_seq (r_seq (b (q5 P N2)) (r_cond rfl r_skip (r_exit (fun _ _ h => h)))) (r_seq (r_block (rD T0_ok mixed [(0, false), (1, false), (2, false), (3, false), (4, false), (5, false), (6, false), (7, false), (8, false), (9, false), (10, false), (11, false), (12, false), (13, false), (14, false), (15, false), (16, false), (17, false), (18, false), (19, false), (20, false), (21, false), (22, false)] (by kernel_rfl) (q4 P N2))) (b (q3 P N2)))))))) (r_seq (b (q1 P)) r_ret))))
theorem ac (P : PT) (x0a : Int) (x0b : Value) (x1a : Int) (x1b : Value) (H : AHeap) (h : B8 P x0a x0b x1a x1b H) : AC Tryz.prog T0 189 [(Value.agg ⟨[(Value.int .i64 x0a), x0b]⟩), (Value.agg ⟨[(Value.int .i64 x1a), x1b]⟩)] H P :=
  r_fn T0_ok (c := code) (n := 47) Tryz.func189 body (by kernel_rfl) (main P) (En_mk (x0a, x0b, x1a, x1b, ()) (by kernel_rfl) ⟨by kernel_rfl, by kernel_rfl, trivial⟩ h)

end F189
namespace F190
abbrev E := En 9
abbrev Q := QB Tryz.prog T0 9
def O (k : Nat) := ob Tryz.f190 (pth k)
def ret (P : PT) : EP := retE T0 9 Tryz.f190 P
abbrev k0 : Sk := [(0,.v),(1,.v)]
def o1 := O 6
def B1 (P : PT) : Y k0 := fun x0 x1 H =>
  AC Tryz.prog T0 210 [x0, x1] H (fun v1 H2 => asI .i64 v1 (fun v3 => P (Value.bool (decide ((v3 : Int) ≥ 0))) H2))
theorem q1 P : Q o1 (ret P) k0 (B1 P) := fun _ _ _ _ => by kernel_rfl
def o2 := O 2
def B2 (P : PT) : Y k0 := fun x0 x1 H =>
  B1 P x0 x1 H
theorem q2 P : Q o2 (E k0 (B1 P)) k0 (B2 P) := fun _ _ _ _ => by kernel_rfl
def code : Code := (.seq (R 0 o2) (.seq (R 1 o1) .ret))
theorem body : Tryz.f190.body = some code := by kernel_rfl
theorem main (P : PT) : ∀ env H, (En 9 k0 (B2 P)) env H → AW Tryz.prog T0 code env H (M (ret P)) :=
  (r_seq (b (q2 P)) (r_seq (b (q1 P)) r_ret))
theorem ac (P : PT) (x0 x1 : Value) (H : AHeap) (h : B2 P x0 x1 H) : AC Tryz.prog T0 190 [x0, x1] H P :=
  r_fn T0_ok (c := code) (n := 9) Tryz.func190 body (by kernel_rfl) (main P) (En_mk (x0, x1, ()) (by kernel_rfl) ⟨by kernel_rfl, by kernel_rfl, trivial⟩ h)

end F190
namespace F191
abbrev E := En 7
abbrev Q := QB Tryz.prog T0 7
def O (k : Nat) := ob Tryz.f191 (pth k)
def ret (P : PT) : EP := retE T0 7 Tryz.f191 P
abbrev k0 : Sk := [(0,.i .u64),(1,.v)]
def o1 := O 6
def B1 (P : PT) : Y k0 := fun x0 x1 H =>
  asP x1 (fun b1 o2 => ldI .i64 H b1 o2 (fun v3 => AC Tryz.prog T0 144 [(Value.int .u64 x0), (Value.int .i64 v3)] H (fun v4 H5 => asB v4 (fun v6 => P (Value.bool v6) H5))))
theorem q1 P : Q o1 (ret P) k0 (B1 P) := fun _ _ _ _ => by kernel_rfl
def o2 := O 2
def B2 (P : PT) : Y k0 := fun x0 x1 H =>
  B1 P x0 x1 H
theorem q2 P : Q o2 (E k0 (B1 P)) k0 (B2 P) := fun _ _ _ _ => by kernel_rfl
def code : Code := (.seq (R 0 o2) (.seq (R 1 o1) .ret))
theorem body : Tryz.f191.body = some code := by kernel_rfl
theorem main (P : PT) : ∀ env H, (En 7 k0 (B2 P)) env H → AW Tryz.prog T0 code env H (M (ret P)) :=
  (r_seq (b (q2 P)) (r_seq (b (q1 P)) r_ret))
theorem ac (P : PT) (x0 : Int) (x1 : Value) (H : AHeap) (h : B2 P x0 x1 H) : AC Tryz.prog T0 191 [(Value.int .u64 x0), x1] H P :=
  r_fn T0_ok (c := code) (n := 7) Tryz.func191 body (by kernel_rfl) (main P) (En_mk (x0, x1, ()) (by kernel_rfl) ⟨by kernel_rfl, by kernel_rfl, trivial⟩ h)

end F191
namespace F192
abbrev E := En 49
abbrev Q := QB Tryz.prog T0 49
def O (k : Nat) := ob Tryz.f192 (pth k)
def ret (P : PT) : EP := retE T0 49 Tryz.f192 P
abbrev k0 : Sk := [(0,.v),(1,J),(2,J),(6,J)]
def o2 := O 51
def B2 (P : PT) (N1 : Y k0) : Y k0 := fun x0 x1 x2 x6 H =>
  N1 x0 x1 x2 (IntKind.i64.wrap (x6 + 1)) H
theorem q2 P N1 : Q o2 (E k0 N1) k0 (B2 P N1) := fun _ _ _ _ _ _ => by kernel_rfl
abbrev k1 : Sk := [(0,.v),(1,J),(2,J),(6,J),(7,J)]
def o4 := O 3219
def B4 (P : PT) (N1 : Y k0) (N3 : Y k1) : Y k1 := fun x0 x1 x2 x6 x7 H =>
  N3 x0 x1 x2 x6 (IntKind.i64.wrap (x7 - 1)) H
theorem q4 P N1 N3 : Q o4 (E k1 N3) k1 (B4 P N1 N3) := fun _ _ _ _ _ _ _ => by kernel_rfl
def o5 := O 6436
def B5 (P : PT) (N1 : Y k0) (N3 : Y k1) : Y k1 := fun x0 x1 x2 x6 x7 H =>
  idxK x0 (IntKind.i64.wrap (x7 - 1)) 1 (fun b1 o2 => ldI .i64 H b1 o2 (fun v3 => idxK x0 x7 1 (fun b4 o5 => ldI .i64 H b4 o5 (fun v6 => idxK x0 x7 1 (fun b7 o8 => stK H b7 o8 [(Value.int .i64 v3)] (fun H9 => idxK x0 (IntKind.i64.wrap (x7 - 1)) 1 (fun b10 o11 => stK H9 b10 o11 [(Value.int .i64 v6)] (fun H12 => B4 P N1 N3 x0 x1 x2 x6 x7 H12))))))))
theorem q5 (P : PT) (N1 : Y k0) (N3 : Y k1) : QD Tryz.prog T0 49 o5 [(0, false), (1, false), (2, false), (3, false), (4, false), (5, false), (6, false), (7, false), (8, false), (9, false), (10, false), (11, false), (12, false), (13, false), (14, false), (15, false), (16, false), (17, false)] (En 49 k1 (B4 P N1 N3)) k1 (B5 P N1 N3) := fun _ _ _ _ _ _ _  => by kernel_rfl
def o6 := O 3216
def B6 (P : PT) (N1 : Y k0) (N3 : Y k1) : Y k1 := fun x0 x1 x2 x6 x7 H =>
  pif (decide ((x7 : Int) > x1)) (idxK x0 x7 1 (fun b1 o2 => ldI .i64 H b1 o2 (fun v3 => idxK x0 (IntKind.i64.wrap (x7 - 1)) 1 (fun b4 o5 => ldI .i64 H b4 o5 (fun v6 => AC Tryz.prog T0 198 [(Value.int .i64 v3), (Value.int .i64 v6)] H (fun v7 H8 => asB v7 (fun v9 => pif v9 (B5 P N1 N3 x0 x1 x2 x6 x7 H8) (B2 P N1 x0 x1 x2 x6 H8)))))))) (B2 P N1 x0 x1 x2 x6 H)
theorem q6 (P : PT) (N1 : Y k0) (N3 : Y k1) : QD Tryz.prog T0 49 o6 [(0, false), (1, false), (2, false), (3, false), (4, false), (5, false), (6, false), (7, false), (8, false), (9, false), (10, false), (11, false), (12, false), (13, false), (14, false)] (cnd 30 (En 49 k1 (B5 P N1 N3)) (En 49 k0 (B2 P N1))) k1 (B6 P N1 N3) := fun _ _ _ _ _ _ _  => by kernel_rfl
def L3 (P : PT) (N1 : Y k0) : Y k1 := fun x0 x1 x2 x6 x7 H =>
  ∃ (I : Y k1) (μ : NTy k1 (AHeap → Nat)), I x0 x1 x2 x6 x7 H ∧ ∀ y0 y1 y2 y6 y7 G, I y0 y1 y2 y6 y7 G → B6 P N1 (fun z0 z1 z2 z6 z7 G' => I z0 z1 z2 z6 z7 G' ∧ μ z0 z1 z2 z6 z7 G' < μ y0 y1 y2 y6 y7 G) y0 y1 y2 y6 y7 G
theorem l3 P N1 : LQ k1 (L3 P N1) (B6 P N1) := fun ⟨_,_,_,_,_,_⟩ _ ⟨I, μ, h0, hI⟩ => ⟨apT _ I, apT _ μ, h0, fun ⟨_,_,_,_,_,_⟩ _ h => hI _ _ _ _ _ _  h⟩
def o7 := O 200
def B7 (P : PT) (N1 : Y k0) : Y k0 := fun x0 x1 x2 x6 H =>
  L3 P N1 x0 x1 x2 x6 x6 H
theorem q7 P N1 : Q o7 (E k1 (L3 P N1)) k0 (B7 P N1) := fun _ _ _ _ _ _ => by kernel_rfl
def o8 := O 48
def B8 (P : PT) (N1 : Y k0) : Y k0 := fun x0 x1 x2 x6 H =>
  pif (decide ((x6 : Int) < x2)) (B7 P N1 x0 x1 x2 x6 H) (P (Value.tuple ⟨[]⟩) H)
theorem q8 P N1 : Q o8 (cnd 12 (E k0 (B7 P N1)) (ret P)) k0 (B8 P N1) := fun _ _ _ _ _ _ => by kernel_rfl
def L1 (P : PT) : Y k0 := fun x0 x1 x2 x6 H =>
  ∃ (I : Y k0) (μ : NTy k0 (AHeap → Nat)), I x0 x1 x2 x6 H ∧ ∀ y0 y1 y2 y6 G, I y0 y1 y2 y6 G → B8 P (fun z0 z1 z2 z6 G' => I z0 z1 z2 z6 G' ∧ μ z0 z1 z2 z6 G' < μ y0 y1 y2 y6 G) y0 y1 y2 y6 G
theorem l1 P : LQ k0 (L1 P) (B8 P) := fun ⟨_,_,_,_,_⟩ _ ⟨I, μ, h0, hI⟩ => ⟨apT _ I, apT _ μ, h0, fun ⟨_,_,_,_,_⟩ _ h => hI _ _ _ _ _  h⟩
abbrev k2 : Sk := [(0,.v),(1,J),(2,J)]
def o9 := O 2
def B9 (P : PT) : Y k2 := fun x0 x1 x2 H =>
  L1 P x0 x1 x2 (IntKind.i64.wrap (x1 + 1)) H
theorem q9 P : Q o9 (E k0 (L1 P)) k2 (B9 P) := fun _ _ _ _ _ => by kernel_rfl
def code : Code := (.seq (R 0 o9) (.block 0 (.loop (.seq (.seq (R 1 o8) (.cond (.tmp 12) .skip (.exit 0))) (.seq (.block 1 (.seq (R 3 o7) (.block 2 (.loop (.seq (.seq (.region 4 ⟨o6⟩ true) (.cond (.tmp 30) .skip (.exit 2))) (.seq (.block 3 (.region 6 ⟨o5⟩ true)) (R 5 o4))))))) (R 2 o2))))))
theorem body : Tryz.f192.body = some code := by kernel_rfl
theorem main (P : PT) : ∀ env H, (En 49 k2 (B9 P)) env H → AW Tryz.prog T0 code env H (M (ret P)) :=
  (r_seq (b (q9 P)) (r_block (rL (l1 P) (fun N1 => (r_seq (r_seq (b (q8 P N1)) (r_cond rfl r_skip (r_exit (fun _ _ h => h)))) (r_seq (r_block (r_seq (b (q7 P N1)) (r_block (rL (l3 P N1) (fun N3 => (r_seq (r_seq (rD T0_ok mixed [(0, false), (1, false), (2, false), (3, false), (4, false), (5, false), (6, false), (7, false), (8, false), (9, false), (10, false), (11, false), (12, false), (13, false), (14, false)] (by kernel_rfl) (q6 P N1 N3)) (r_cond rfl r_skip (r_exit (fun _ _ h => h)))) (r_seq (r_block (rD T0_ok mixed [(0, false), (1, false), (2, false), (3, false), (4, false), (5, false), (6, false), (7, false), (8, false), (9, false), (10, false), (11, false), (12, false), (13, false), (14, false), (15, false), (16, false), (17, false)] (by kernel_rfl) (q5 P N1 N3))) (b (q4 P N1 N3))))))))) (b (q2 P N1))))))))
theorem ac (P : PT) (x0 : Value) (x1 x2 : Int) (H : AHeap) (h : B9 P x0 x1 x2 H) : AC Tryz.prog T0 192 [x0, (Value.int .i64 x1), (Value.int .i64 x2)] H P :=
  r_fn T0_ok (c := code) (n := 49) Tryz.func192 body (by kernel_rfl) (main P) (En_mk (x0, x1, x2, ()) (by kernel_rfl) ⟨by kernel_rfl, by kernel_rfl, by kernel_rfl, trivial⟩ h)

end F192
namespace F198
abbrev E := En 17
abbrev Q := QB Tryz.prog T0 17
def O (k : Nat) := ob Tryz.f198 (pth k)
def ret (P : PT) : EP := retE T0 17 Tryz.f198 P
abbrev k0 : Sk := [(0,J),(1,J)]
def o1 := O 6
def B1 (P : PT) : Y k0 := fun x0 x1 H =>
  AC Tryz.prog T0 204 [(Value.int .i64 x0)] H (fun v1 H2 => asB v1 (fun v3 => pif v3 (AC Tryz.prog T0 204 [(Value.int .i64 x1)] H2 (fun v4 H5 => asB v4 (fun v6 => pif (!v6) (P (Value.bool true) H5) (P (Value.bool (decide ((x0 : Int) < x1))) H5)))) (P (Value.bool (decide ((x0 : Int) < x1))) H2)))
theorem q1 P : Q o1 (ret P) k0 (B1 P) := fun _ _ _ _ => by kernel_rfl
def o2 := O 2
def B2 (P : PT) : Y k0 := fun x0 x1 H =>
  B1 P x0 x1 H
theorem q2 P : Q o2 (E k0 (B1 P)) k0 (B2 P) := fun _ _ _ _ => by kernel_rfl
def code : Code := (.seq (R 0 o2) (.seq (R 1 o1) .ret))
theorem body : Tryz.f198.body = some code := by kernel_rfl
theorem main (P : PT) : ∀ env H, (En 17 k0 (B2 P)) env H → AW Tryz.prog T0 code env H (M (ret P)) :=
  (r_seq (b (q2 P)) (r_seq (b (q1 P)) r_ret))
theorem ac (P : PT) (x0 x1 : Int) (H : AHeap) (h : B2 P x0 x1 H) : AC Tryz.prog T0 198 [(Value.int .i64 x0), (Value.int .i64 x1)] H P :=
  r_fn T0_ok (c := code) (n := 17) Tryz.func198 body (by kernel_rfl) (main P) (En_mk (x0, x1, ()) (by kernel_rfl) ⟨by kernel_rfl, by kernel_rfl, trivial⟩ h)

end F198
namespace F202
abbrev E := En 25
abbrev Q := QB Tryz.prog T0 25
def O (k : Nat) := ob Tryz.f202 (pth k)
def ret (P : PT) : EP := retE T0 25 Tryz.f202 P
abbrev k0 : Sk := [(0,.i .u64),(2,J)]
def o1 := O 62
def B1 (P : PT) : Y k0 := fun x0 x2 H =>
  bndK (IntKind.u8.wrap x0) (ByteArray.size (ByteArray.mk (List.toArray (List.append (List.append [0, 1, 2, 2, 3, 3, 3, 3, 4, 4, 4, 4, 4, 4, 4, 4, 5, 5, 5, 5, 5, 5, 5, 5, 5, 5, 5, 5, 5, 5, 5, 5, 6, 6, 6, 6, 6, 6, 6, 6, 6, 6, 6, 6, 6, 6, 6, 6, 6, 6, 6, 6, 6, 6, 6, 6, 6, 6, 6, 6, 6, 6, 6, 6] [7, 7, 7, 7, 7, 7, 7, 7, 7, 7, 7, 7, 7, 7, 7, 7, 7, 7, 7, 7, 7, 7, 7, 7, 7, 7, 7, 7, 7, 7, 7, 7, 7, 7, 7, 7, 7, 7, 7, 7, 7, 7, 7, 7, 7, 7, 7, 7, 7, 7, 7, 7, 7, 7, 7, 7, 7, 7, 7, 7, 7, 7, 7, 7]) (List.append [8, 8, 8, 8, 8, 8, 8, 8, 8, 8, 8, 8, 8, 8, 8, 8, 8, 8, 8, 8, 8, 8, 8, 8, 8, 8, 8, 8, 8, 8, 8, 8, 8, 8, 8, 8, 8, 8, 8, 8, 8, 8, 8, 8, 8, 8, 8, 8, 8, 8, 8, 8, 8, 8, 8, 8, 8, 8, 8, 8, 8, 8, 8, 8] [8, 8, 8, 8, 8, 8, 8, 8, 8, 8, 8, 8, 8, 8, 8, 8, 8, 8, 8, 8, 8, 8, 8, 8, 8, 8, 8, 8, 8, 8, 8, 8, 8, 8, 8, 8, 8, 8, 8, 8, 8, 8, 8, 8, 8, 8, 8, 8, 8, 8, 8, 8, 8, 8, 8, 8, 8, 8, 8, 8, 8, 8, 8, 8]))))) (P (Value.int .i64 (IntKind.i64.wrap (x2 + (IntKind.i64.wrap (((ByteArray.mk (List.toArray (List.append (List.append [0, 1, 2, 2, 3, 3, 3, 3, 4, 4, 4, 4, 4, 4, 4, 4, 5, 5, 5, 5, 5, 5, 5, 5, 5, 5, 5, 5, 5, 5, 5, 5, 6, 6, 6, 6, 6, 6, 6, 6, 6, 6, 6, 6, 6, 6, 6, 6, 6, 6, 6, 6, 6, 6, 6, 6, 6, 6, 6, 6, 6, 6, 6, 6] [7, 7, 7, 7, 7, 7, 7, 7, 7, 7, 7, 7, 7, 7, 7, 7, 7, 7, 7, 7, 7, 7, 7, 7, 7, 7, 7, 7, 7, 7, 7, 7, 7, 7, 7, 7, 7, 7, 7, 7, 7, 7, 7, 7, 7, 7, 7, 7, 7, 7, 7, 7, 7, 7, 7, 7, 7, 7, 7, 7, 7, 7, 7, 7]) (List.append [8, 8, 8, 8, 8, 8, 8, 8, 8, 8, 8, 8, 8, 8, 8, 8, 8, 8, 8, 8, 8, 8, 8, 8, 8, 8, 8, 8, 8, 8, 8, 8, 8, 8, 8, 8, 8, 8, 8, 8, 8, 8, 8, 8, 8, 8, 8, 8, 8, 8, 8, 8, 8, 8, 8, 8, 8, 8, 8, 8, 8, 8, 8, 8] [8, 8, 8, 8, 8, 8, 8, 8, 8, 8, 8, 8, 8, 8, 8, 8, 8, 8, 8, 8, 8, 8, 8, 8, 8, 8, 8, 8, 8, 8, 8, 8, 8, 8, 8, 8, 8, 8, 8, 8, 8, 8, 8, 8, 8, 8, 8, 8, 8, 8, 8, 8, 8, 8, 8, 8, 8, 8, 8, 8, 8, 8, 8, 8])))).data.toList.getD (Int.toNat (IntKind.u8.wrap x0)) 0).toNat : Int))))) H)
theorem q1 P : Q o1 (ret P) k0 (B1 P) := fun _ _ _ _ => by kernel_rfl
def o2 := O 245
def B2 (P : PT) : Y k0 := fun x0 x2 H =>
  B1 P x0 (IntKind.i64.wrap (x2 + 8)) H
theorem q2 P : Q o2 (E k0 (B1 P)) k0 (B2 P) := fun _ _ _ _ => by kernel_rfl
def o3 := O 244
def B3 (P : PT) : Y k0 := fun x0 x2 H =>
  ((0 : Int) ≤ 8) ∧ (B2 P (Int.fdiv x0 (2 ^ (min (Int.toNat 8) 64))) x2 H)
theorem q3 P : Q o3 (E k0 (B2 P)) k0 (B3 P) := fun _ _ _ _ => by kernel_rfl
def o4 := O 60
def B4 (P : PT) : Y k0 := fun x0 x2 H =>
  pif (decide ((x0 : Int) ≥ 256)) (B3 P x0 x2 H) (B1 P x0 x2 H)
theorem q4 P : Q o4 (cnd 14 (E k0 (B3 P)) (E k0 (B1 P))) k0 (B4 P) := fun _ _ _ _ => by kernel_rfl
def o5 := O 117
def B5 (P : PT) : Y k0 := fun x0 x2 H =>
  B4 P x0 (IntKind.i64.wrap (x2 + 16)) H
theorem q5 P : Q o5 (E k0 (B4 P)) k0 (B5 P) := fun _ _ _ _ => by kernel_rfl
def o6 := O 116
def B6 (P : PT) : Y k0 := fun x0 x2 H =>
  ((0 : Int) ≤ 16) ∧ (B5 P (Int.fdiv x0 (2 ^ (min (Int.toNat 16) 64))) x2 H)
theorem q6 P : Q o6 (E k0 (B5 P)) k0 (B6 P) := fun _ _ _ _ => by kernel_rfl
def o7 := O 28
def B7 (P : PT) : Y k0 := fun x0 x2 H =>
  pif (decide ((x0 : Int) ≥ 65536)) (B6 P x0 x2 H) (B4 P x0 x2 H)
theorem q7 P : Q o7 (cnd 8 (E k0 (B6 P)) (E k0 (B4 P))) k0 (B7 P) := fun _ _ _ _ => by kernel_rfl
abbrev k1 : Sk := [(0,.i .u64)]
def o8 := O 53
def B8 (P : PT) : Y k1 := fun x0 H =>
  B7 P x0 32 H
theorem q8 P : Q o8 (E k0 (B7 P)) k1 (B8 P) := fun _ _ _ => by kernel_rfl
def o9 := O 52
def B9 (P : PT) : Y k1 := fun x0 H =>
  ((0 : Int) ≤ 32) ∧ (B8 P (Int.fdiv x0 (2 ^ (min (Int.toNat 32) 64))) H)
theorem q9 P : Q o9 (E k1 (B8 P)) k1 (B9 P) := fun _ _ _ => by kernel_rfl
def o10 := O 12
def B10 (P : PT) : Y k0 := fun x0 x2 H =>
  pif (decide ((x0 : Int) ≥ 4294967296)) (B9 P x0 H) (B7 P x0 x2 H)
theorem q10 P : Q o10 (cnd 4 (E k1 (B9 P)) (E k0 (B7 P))) k0 (B10 P) := fun _ _ _ _ => by kernel_rfl
def o11 := O 2
def B11 (P : PT) : Y k1 := fun x0 H =>
  B10 P x0 0 H
theorem q11 P : Q o11 (E k0 (B10 P)) k1 (B11 P) := fun _ _ _ => by kernel_rfl
def code : Code := (.seq (R 0 o11) (.seq (.seq (R 1 o10) (.cond (.tmp 4) (.seq (R 2 o9) (R 3 o8)) .skip)) (.seq (.seq (R 4 o7) (.cond (.tmp 8) (.seq (R 5 o6) (R 6 o5)) .skip)) (.seq (.seq (R 7 o4) (.cond (.tmp 14) (.seq (R 8 o3) (R 9 o2)) .skip)) (.seq (R 10 o1) .ret)))))
theorem body : Tryz.f202.body = some code := by kernel_rfl
theorem main (P : PT) : ∀ env H, (En 25 k1 (B11 P)) env H → AW Tryz.prog T0 code env H (M (ret P)) :=
  (r_seq (b (q11 P)) (r_seq (r_seq (b (q10 P)) (r_cond rfl (r_seq (b (q9 P)) (b (q8 P))) r_skip)) (r_seq (r_seq (b (q7 P)) (r_cond rfl (r_seq (b (q6 P)) (b (q5 P))) r_skip)) (r_seq (r_seq (b (q4 P)) (r_cond rfl (r_seq (b (q3 P)) (b (q2 P))) r_skip)) (r_seq (b (q1 P)) r_ret)))))
theorem ac (P : PT) (x0 : Int) (H : AHeap) (h : B11 P x0 H) : AC Tryz.prog T0 202 [(Value.int .u64 x0)] H P :=
  r_fn T0_ok (c := code) (n := 25) Tryz.func202 body (by kernel_rfl) (main P) (En_mk (x0, ()) (by kernel_rfl) ⟨by kernel_rfl, trivial⟩ h)

end F202
namespace F204
abbrev E := En 6
abbrev Q := QB Tryz.prog T0 6
def O (k : Nat) := ob Tryz.f204 (pth k)
def ret (P : PT) : EP := retE T0 6 Tryz.f204 P
abbrev k0 : Sk := [(0,J)]
def o1 := O 6
def B1 (P : PT) : Y k0 := fun x0 H =>
  P (Value.bool ((x0 : Int) != x0)) H
theorem q1 P : Q o1 (ret P) k0 (B1 P) := fun _ _ _ => by kernel_rfl
def o2 := O 2
def B2 (P : PT) : Y k0 := fun x0 H =>
  B1 P x0 H
theorem q2 P : Q o2 (E k0 (B1 P)) k0 (B2 P) := fun _ _ _ => by kernel_rfl
def code : Code := (.seq (R 0 o2) (.seq (R 1 o1) .ret))
theorem body : Tryz.f204.body = some code := by kernel_rfl
theorem main (P : PT) : ∀ env H, (En 6 k0 (B2 P)) env H → AW Tryz.prog T0 code env H (M (ret P)) :=
  (r_seq (b (q2 P)) (r_seq (b (q1 P)) r_ret))
theorem ac (P : PT) (x0 : Int) (H : AHeap) (h : B2 P x0 H) : AC Tryz.prog T0 204 [(Value.int .i64 x0)] H P :=
  r_fn T0_ok (c := code) (n := 6) Tryz.func204 body (by kernel_rfl) (main P) (En_mk (x0, ()) (by kernel_rfl) ⟨by kernel_rfl, trivial⟩ h)

end F204
namespace F205
abbrev E := En 19
abbrev Q := QB Tryz.prog T0 19
def O (k : Nat) := ob Tryz.f205 (pth k)
def ret (P : PT) : EP := retE T0 19 Tryz.f205 P
abbrev k0 : Sk := []
def o1 := O 14
def B1 (P : PT) : Y k0 := fun H =>
  P (Value.int .i64 (-1)) H
theorem q1 P : Q o1 (ret P) k0 (B1 P) := fun _ _ => by kernel_rfl
abbrev k1 : Sk := [(0,.v),(1,.v),(7,J),(8,J)]
def o3 := O 423
def B3 (P : PT) (N2 : Y k1) : Y k1 := fun x0 x1 x7 x8 H =>
  N2 x0 x1 x7 (IntKind.i64.wrap (x8 + 1)) H
theorem q3 P N2 : Q o3 (E k1 N2) k1 (B3 P N2) := fun _ _ _ _ _ _ => by kernel_rfl
abbrev k2 : Sk := [(5,J)]
def o4 := O 13516
def B4 (P : PT) (N2 : Y k1) : Y k2 := fun x5 H =>
  P (Value.int .i64 x5) H
theorem q4 P N2 : Q o4 (ret P) k2 (B4 P N2) := fun _ _ _ => by kernel_rfl
abbrev k3 : Sk := [(0,.v),(1,.v),(5,J),(7,J),(8,J)]
def o5 := O 3378
def B5 (P : PT) (N2 : Y k1) : Y k3 := fun x0 x1 x5 x7 x8 H =>
  idxK x0 x5 1 (fun b1 o2 => ldI .i64 H b1 o2 (fun v3 => callV Tryz.prog T0 x1 [(Value.int .i64 v3)] H (fun v4 H5 => asB v4 (fun v6 => pif v6 (B4 P N2 x5 H5) (B3 P N2 x0 x1 x7 x8 H5)))))
theorem q5 P N2 : Q o5 (cnd 16 (E k2 (B4 P N2)) (E k1 (B3 P N2))) k3 (B5 P N2) := fun _ _ _ _ _ _ _ => by kernel_rfl
def o6 := O 1688
def B6 (P : PT) (N2 : Y k1) : Y k1 := fun x0 x1 x7 x8 H =>
  B5 P N2 x0 x1 x8 x7 x8 H
theorem q6 P N2 : Q o6 (E k3 (B5 P N2)) k1 (B6 P N2) := fun _ _ _ _ _ _ => by kernel_rfl
def o7 := O 104
def B7 (P : PT) (N2 : Y k1) : Y k1 := fun x0 x1 x7 x8 H =>
  pif (decide ((x8 : Int) < x7)) (B6 P N2 x0 x1 x7 x8 H) (B1 P H)
theorem q7 P N2 : Q o7 (cnd 9 (E k1 (B6 P N2)) (E k0 (B1 P))) k1 (B7 P N2) := fun _ _ _ _ _ _ => by kernel_rfl
def L2 (P : PT) : Y k1 := fun x0 x1 x7 x8 H =>
  ∃ (I : Y k1) (μ : NTy k1 (AHeap → Nat)), I x0 x1 x7 x8 H ∧ ∀ y0 y1 y7 y8 G, I y0 y1 y7 y8 G → B7 P (fun z0 z1 z7 z8 G' => I z0 z1 z7 z8 G' ∧ μ z0 z1 z7 z8 G' < μ y0 y1 y7 y8 G) y0 y1 y7 y8 G
theorem l2 P : LQ k1 (L2 P) (B7 P) := fun ⟨_,_,_,_,_⟩ _ ⟨I, μ, h0, hI⟩ => ⟨apT _ I, apT _ μ, h0, fun ⟨_,_,_,_,_⟩ _ h => hI _ _ _ _ _  h⟩
abbrev k4 : Sk := [(0,.v),(1,.v)]
def o8 := O 12
def B8 (P : PT) : Y k4 := fun x0 x1 H =>
  lenK x0 (fun n1 => L2 P x0 x1 (n1 : Int) 0 H)
theorem q8 P : Q o8 (E k1 (L2 P)) k4 (B8 P) := fun _ _ _ _ => by kernel_rfl
def o9 := O 2
def B9 (P : PT) : Y k4 := fun x0 x1 H =>
  B8 P x0 x1 H
theorem q9 P : Q o9 (E k4 (B8 P)) k4 (B9 P) := fun _ _ _ _ => by kernel_rfl
def code : Code := (.seq (R 0 o9) (.seq (.seq (R 1 o8) (.block 0 (.loop (.seq (R 2 o7) (.seq (.cond (.tmp 9) .skip (.exit 0)) (.seq (.block 1 (.seq (R 3 o6) (.seq (R 4 o5) (.cond (.tmp 16) (.seq (R 5 o4) .ret) .skip)))) (R 6 o3))))))) (.seq (R 7 o1) .ret)))
theorem body : Tryz.f205.body = some code := by kernel_rfl
theorem main (P : PT) : ∀ env H, (En 19 k4 (B9 P)) env H → AW Tryz.prog T0 code env H (M (ret P)) :=
  (r_seq (b (q9 P)) (r_seq (r_seq (b (q8 P)) (r_block (rL (l2 P) (fun N2 => (r_seq (b (q7 P N2)) (r_seq (r_cond rfl r_skip (r_exit (fun _ _ h => h))) (r_seq (r_block (r_seq (b (q6 P N2)) (r_seq (b (q5 P N2)) (r_cond rfl (r_seq (b (q4 P N2)) r_ret) r_skip)))) (b (q3 P N2))))))))) (r_seq (b (q1 P)) r_ret)))
theorem ac (P : PT) (x0 x1 : Value) (H : AHeap) (h : B9 P x0 x1 H) : AC Tryz.prog T0 205 [x0, x1] H P :=
  r_fn T0_ok (c := code) (n := 19) Tryz.func205 body (by kernel_rfl) (main P) (En_mk (x0, x1, ()) (by kernel_rfl) ⟨by kernel_rfl, by kernel_rfl, trivial⟩ h)

end F205
namespace F209
abbrev E := En 29
abbrev Q := QB Tryz.prog T0 29
def O (k : Nat) := ob Tryz.f209 (pth k)
def ret (P : PT) : EP := retE T0 29 Tryz.f209 P
abbrev k0 : Sk := [(0,.v)]
def o1 := O 14
def B1 (P : PT) : Y k0 := fun x0 H =>
  P x0 H
theorem q1 P : Q o1 (ret P) k0 (B1 P) := fun _ _ _ => by kernel_rfl
abbrev k1 : Sk := [(0,.v),(1,.v),(5,J)]
def o3 := O 211
def B3 (P : PT) (N2 : Y k1) : Y k1 := fun x0 x1 x5 H =>
  N2 x0 x1 (IntKind.i64.wrap (x5 + 1)) H
theorem q3 P N2 : Q o3 (E k1 N2) k1 (B3 P N2) := fun _ _ _ _ _ => by kernel_rfl
def o4 := O 420
def B4 (P : PT) (N2 : Y k1) : Y k1 := fun x0 x1 x5 H =>
  idxK x1 x5 1 (fun b1 o2 => ldI .i64 H b1 o2 (fun v3 => lenK x1 (fun n4 => nzK (n4 : Int) (idxK x1 (Int.tmod (IntKind.i64.wrap (x5 + 1)) (n4 : Int)) 1 (fun b5 o6 => ldI .i64 H b5 o6 (fun v7 => newK H [(Value.int .i64 v3), (Value.int .i64 v7)] 28 (fun b8 H9 => apK T0 28 H9 x0 (Value.slice (some ⟨b8, 0, none⟩) 1 (1 + 1)) (fun v10 H11 => B3 P N2 v10 x1 x5 H11))))))))
theorem q4 (P : PT) (N2 : Y k1) : QD Tryz.prog T0 29 o4 [(0, false), (1, false), (2, false), (3, false), (4, false), (5, false), (6, false), (7, false), (8, false), (9, false), (10, false), (11, false), (12, false), (13, false), (14, false), (15, false), (16, false)] (En 29 k1 (B3 P N2)) k1 (B4 P N2) := fun _ _ _ _ _  => by kernel_rfl
def o5 := O 208
def B5 (P : PT) (N2 : Y k1) : Y k1 := fun x0 x1 x5 H =>
  lenK x1 (fun n1 => pif (decide ((x5 : Int) < (n1 : Int))) (B4 P N2 x0 x1 x5 H) (B1 P x0 H))
theorem q5 P N2 : Q o5 (cnd 9 (E k1 (B4 P N2)) (E k0 (B1 P))) k1 (B5 P N2) := fun _ _ _ _ _ => by kernel_rfl
def L2 (P : PT) : Y k1 := fun x0 x1 x5 H =>
  ∃ (I : Y k1) (μ : NTy k1 (AHeap → Nat)), I x0 x1 x5 H ∧ ∀ y0 y1 y5 G, I y0 y1 y5 G → B5 P (fun z0 z1 z5 G' => I z0 z1 z5 G' ∧ μ z0 z1 z5 G' < μ y0 y1 y5 G) y0 y1 y5 G
theorem l2 P : LQ k1 (L2 P) (B5 P) := fun ⟨_,_,_,_⟩ _ ⟨I, μ, h0, hI⟩ => ⟨apT _ I, apT _ μ, h0, fun ⟨_,_,_,_⟩ _ h => hI _ _ _ _  h⟩
abbrev k2 : Sk := [(0,.v),(1,.v)]
def o6 := O 12
def B6 (P : PT) : Y k2 := fun x0 x1 H =>
  L2 P x0 x1 0 H
theorem q6 P : Q o6 (E k1 (L2 P)) k2 (B6 P) := fun _ _ _ _ => by kernel_rfl
def o7 := O 2
def B7 (P : PT) : Y k2 := fun x0 x1 H =>
  B6 P x0 x1 H
theorem q7 P : Q o7 (E k2 (B6 P)) k2 (B7 P) := fun _ _ _ _ => by kernel_rfl
def code : Code := (.seq (R 0 o7) (.seq (.seq (R 1 o6) (.block 0 (.loop (.seq (.seq (R 2 o5) (.cond (.tmp 9) .skip (.exit 0))) (.seq (.block 1 (.region 4 ⟨o4⟩ true)) (R 3 o3)))))) (.seq (R 5 o1) .ret)))
theorem body : Tryz.f209.body = some code := by kernel_rfl
theorem main (P : PT) : ∀ env H, (En 29 k2 (B7 P)) env H → AW Tryz.prog T0 code env H (M (ret P)) :=
  (r_seq (b (q7 P)) (r_seq (r_seq (b (q6 P)) (r_block (rL (l2 P) (fun N2 => (r_seq (r_seq (b (q5 P N2)) (r_cond rfl r_skip (r_exit (fun _ _ h => h)))) (r_seq (r_block (rD T0_ok mixed [(0, false), (1, false), (2, false), (3, false), (4, false), (5, false), (6, false), (7, false), (8, false), (9, false), (10, false), (11, false), (12, false), (13, false), (14, false), (15, false), (16, false)] (by kernel_rfl) (q4 P N2))) (b (q3 P N2)))))))) (r_seq (b (q1 P)) r_ret)))
theorem ac (P : PT) (x0 x1 : Value) (H : AHeap) (h : B7 P x0 x1 H) : AC Tryz.prog T0 209 [x0, x1] H P :=
  r_fn T0_ok (c := code) (n := 29) Tryz.func209 body (by kernel_rfl) (main P) (En_mk (x0, x1, ()) (by kernel_rfl) ⟨by kernel_rfl, by kernel_rfl, trivial⟩ h)

end F209
namespace F210
abbrev E := En 19
abbrev Q := QB Tryz.prog T0 19
def O (k : Nat) := ob Tryz.f210 (pth k)
def ret (P : PT) : EP := retE T0 19 Tryz.f210 P
abbrev k0 : Sk := []
def o1 := O 14
def B1 (P : PT) : Y k0 := fun H =>
  P (Value.int .i64 (-1)) H
theorem q1 P : Q o1 (ret P) k0 (B1 P) := fun _ _ => by kernel_rfl
abbrev k1 : Sk := [(0,.v),(1,.v),(7,J),(8,J)]
def o3 := O 423
def B3 (P : PT) (N2 : Y k1) : Y k1 := fun x0 x1 x7 x8 H =>
  N2 x0 x1 x7 (IntKind.i64.wrap (x8 + 1)) H
theorem q3 P N2 : Q o3 (E k1 N2) k1 (B3 P N2) := fun _ _ _ _ _ _ => by kernel_rfl
abbrev k2 : Sk := [(5,J)]
def o4 := O 13516
def B4 (P : PT) (N2 : Y k1) : Y k2 := fun x5 H =>
  P (Value.int .i64 x5) H
theorem q4 P N2 : Q o4 (ret P) k2 (B4 P N2) := fun _ _ _ => by kernel_rfl
abbrev k3 : Sk := [(0,.v),(1,.v),(5,J),(7,J),(8,J)]
def o5 := O 3378
def B5 (P : PT) (N2 : Y k1) : Y k3 := fun x0 x1 x5 x7 x8 H =>
  idxK x0 x5 1 (fun b1 o2 => ldI .u64 H b1 o2 (fun v3 => callV Tryz.prog T0 x1 [(Value.int .u64 v3)] H (fun v4 H5 => asB v4 (fun v6 => pif v6 (B4 P N2 x5 H5) (B3 P N2 x0 x1 x7 x8 H5)))))
theorem q5 P N2 : Q o5 (cnd 16 (E k2 (B4 P N2)) (E k1 (B3 P N2))) k3 (B5 P N2) := fun _ _ _ _ _ _ _ => by kernel_rfl
def o6 := O 1688
def B6 (P : PT) (N2 : Y k1) : Y k1 := fun x0 x1 x7 x8 H =>
  B5 P N2 x0 x1 x8 x7 x8 H
theorem q6 P N2 : Q o6 (E k3 (B5 P N2)) k1 (B6 P N2) := fun _ _ _ _ _ _ => by kernel_rfl
def o7 := O 104
def B7 (P : PT) (N2 : Y k1) : Y k1 := fun x0 x1 x7 x8 H =>
  pif (decide ((x8 : Int) < x7)) (B6 P N2 x0 x1 x7 x8 H) (B1 P H)
theorem q7 P N2 : Q o7 (cnd 9 (E k1 (B6 P N2)) (E k0 (B1 P))) k1 (B7 P N2) := fun _ _ _ _ _ _ => by kernel_rfl
def L2 (P : PT) : Y k1 := fun x0 x1 x7 x8 H =>
  ∃ (I : Y k1) (μ : NTy k1 (AHeap → Nat)), I x0 x1 x7 x8 H ∧ ∀ y0 y1 y7 y8 G, I y0 y1 y7 y8 G → B7 P (fun z0 z1 z7 z8 G' => I z0 z1 z7 z8 G' ∧ μ z0 z1 z7 z8 G' < μ y0 y1 y7 y8 G) y0 y1 y7 y8 G
theorem l2 P : LQ k1 (L2 P) (B7 P) := fun ⟨_,_,_,_,_⟩ _ ⟨I, μ, h0, hI⟩ => ⟨apT _ I, apT _ μ, h0, fun ⟨_,_,_,_,_⟩ _ h => hI _ _ _ _ _  h⟩
abbrev k4 : Sk := [(0,.v),(1,.v)]
def o8 := O 12
def B8 (P : PT) : Y k4 := fun x0 x1 H =>
  lenK x0 (fun n1 => L2 P x0 x1 (n1 : Int) 0 H)
theorem q8 P : Q o8 (E k1 (L2 P)) k4 (B8 P) := fun _ _ _ _ => by kernel_rfl
def o9 := O 2
def B9 (P : PT) : Y k4 := fun x0 x1 H =>
  B8 P x0 x1 H
theorem q9 P : Q o9 (E k4 (B8 P)) k4 (B9 P) := fun _ _ _ _ => by kernel_rfl
def code : Code := (.seq (R 0 o9) (.seq (.seq (R 1 o8) (.block 0 (.loop (.seq (R 2 o7) (.seq (.cond (.tmp 9) .skip (.exit 0)) (.seq (.block 1 (.seq (R 3 o6) (.seq (R 4 o5) (.cond (.tmp 16) (.seq (R 5 o4) .ret) .skip)))) (R 6 o3))))))) (.seq (R 7 o1) .ret)))
theorem body : Tryz.f210.body = some code := by kernel_rfl
theorem main (P : PT) : ∀ env H, (En 19 k4 (B9 P)) env H → AW Tryz.prog T0 code env H (M (ret P)) :=
  (r_seq (b (q9 P)) (r_seq (r_seq (b (q8 P)) (r_block (rL (l2 P) (fun N2 => (r_seq (b (q7 P N2)) (r_seq (r_cond rfl r_skip (r_exit (fun _ _ h => h))) (r_seq (r_block (r_seq (b (q6 P N2)) (r_seq (b (q5 P N2)) (r_cond rfl (r_seq (b (q4 P N2)) r_ret) r_skip)))) (b (q3 P N2))))))))) (r_seq (b (q1 P)) r_ret)))
theorem ac (P : PT) (x0 x1 : Value) (H : AHeap) (h : B9 P x0 x1 H) : AC Tryz.prog T0 210 [x0, x1] H P :=
  r_fn T0_ok (c := code) (n := 19) Tryz.func210 body (by kernel_rfl) (main P) (En_mk (x0, x1, ()) (by kernel_rfl) ⟨by kernel_rfl, by kernel_rfl, trivial⟩ h)

end F210
end
end Go.Proofs
