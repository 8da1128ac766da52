import Derived.Test.YtkmjiikgkhhciaaGreatX29S
set_option linter.unusedVariables false
set_option maxRecDepth 100000
namespace Go.Proofs
open Go.Abs
noncomputable section
namespace F178
abbrev E := En 42
abbrev Q := QB Tryz.prog T0 42
def O (k : Nat) := ob Tryz.f178 (pth k)
def ret (P : PT) : EP := retE T0 42 Tryz.f178 P
abbrev k0 : Sk := [(3,.v)]
def o1 := O 30
def B1 (P : PT) : Y k0 := fun x3 H =>
  P x3 H
theorem q1 P : Q o1 (ret P) k0 (B1 P) := fun _ _ _ => by kernel_rfl
abbrev k1 : Sk := [(1,.x),(3,.v),(11,.v),(12,J),(13,J)]
def o3 := O 935
def B3 (P : PT) (N2 : Y k1) : Y k1 := fun x1 x3 x11 x12 x13 H =>
  N2 x1 x3 x11 x12 (IntKind.i64.wrap (x13 + 1)) H
theorem q3 P N2 : Q o3 (E k1 N2) k1 (B3 P N2) := fun _ _ _ _ _ _ _ => by kernel_rfl
abbrev k2 : Sk := [(1,.x),(3,.v),(7,.v),(11,.v),(12,J),(13,J)]
def o4 := O 29903
def B4 (P : PT) (N2 : Y k1) : Y k2 := fun x1 x3 x7 x11 x12 x13 H =>
  pif (Value.oneCell' x7) (newK H [x7] 28 (fun b1 H2 => apK T0 28 H2 x3 (Value.slice (some ⟨b1, 0, none⟩) 1 (1 + 1)) (fun v3 H4 => B3 P N2 x1 v3 x11 x12 x13 H4))) False
theorem q4 P N2 : Q o4 (E k1 (B3 P N2)) k2 (B4 P N2) := fun _ _ _ _ _ _ _ _ => by kernel_rfl
abbrev k3 : Sk := [(1,.x),(3,.v),(6,.i .u64),(7,.v),(11,.v),(12,J),(13,J),(20,.v),(21,J),(22,J)]
def o6 := O 1913767
def B6 (P : PT) (N2 : Y k1) (N5 : Y k3) : Y k3 := fun x1 x3 x6 x7 x11 x12 x13 x20 x21 x22 H =>
  N5 x1 x3 x6 x7 x11 x12 x13 x20 x21 (IntKind.i64.wrap (x22 + 1)) H
theorem q6 P N2 N5 : Q o6 (E k3 N5) k3 (B6 P N2 N5) := fun _ _ _ _ _ _ _ _ _ _ _ _ => by kernel_rfl
abbrev k4 : Sk := [(1,.x),(3,.v),(6,.i .u64),(7,.v),(8,J),(11,.v),(12,J),(13,J),(20,.v),(21,J),(22,J)]
def o7 := O 30620262
def B7 (P : PT) (N2 : Y k1) (N5 : Y k3) : Y k4 := fun x1 x3 x6 x7 x8 x11 x12 x13 x20 x21 x22 H =>
  newK H [(Value.int .i64 x8)] 2 (fun b1 H2 => apK T0 2 H2 x7 (Value.slice (some ⟨b1, 0, none⟩) 1 (1 + 1)) (fun v3 H4 => B6 P N2 N5 x1 x3 x6 v3 x11 x12 x13 x20 x21 x22 H4))
theorem q7 P N2 N5 : Q o7 (E k3 (B6 P N2 N5)) k4 (B7 P N2 N5) := fun _ _ _ _ _ _ _ _ _ _ _ _ _ => by kernel_rfl
abbrev k5 : Sk := [(1,.x),(3,.v),(6,.i .u64),(7,.v),(8,J),(9,.x),(11,.v),(12,J),(13,J),(20,.v),(21,J),(22,J)]
def o8 := O 15310130
def B8 (P : PT) (N2 : Y k1) (N5 : Y k3) : Y k5 := fun x1 x3 x6 x7 x8 x9 x11 x12 x13 x20 x21 x22 H =>
  ldI .i64 H x9 0 (fun v1 => AC Tryz.prog T0 134 [(Value.int .u64 x6), (Value.int .i64 v1)] H (fun v2 H3 => asB v2 (fun v4 => pif v4 (B7 P N2 N5 x1 x3 x6 x7 x8 x11 x12 x13 x20 x21 x22 H3) (B6 P N2 N5 x1 x3 x6 x7 x11 x12 x13 x20 x21 x22 H3))))
theorem q8 P N2 N5 : Q o8 (cnd 30 (E k4 (B7 P N2 N5)) (E k3 (B6 P N2 N5))) k5 (B8 P N2 N5) := fun _ _ _ _ _ _ _ _ _ _ _ _ _ _ => by kernel_rfl
def o9 := O 7655064
def B9 (P : PT) (N2 : Y k1) (N5 : Y k3) : Y k3 := fun x1 x3 x6 x7 x11 x12 x13 x20 x21 x22 H =>
  idxK x20 x22 2 (fun b1 o2 => ldI .i64 H b1 o2 (fun v3 => ldI .i64 H b1 (o2 + 1) (fun v4 => newK H [(Value.int .i64 0), (Value.int .i64 0)] 78 (fun b5 H6 => stK H6 b5 0 [(Value.int .i64 v3), (Value.int .i64 v4)] (fun H7 => B8 P N2 N5 x1 x3 x6 x7 x22 b5 x11 x12 x13 x20 x21 x22 H7)))))
theorem q9 P N2 N5 : Q o9 (E k5 (B8 P N2 N5)) k3 (B9 P N2 N5) := fun _ _ _ _ _ _ _ _ _ _ _ _ => by kernel_rfl
def o10 := O 478440
def B10 (P : PT) (N2 : Y k1) (N5 : Y k3) : Y k3 := fun x1 x3 x6 x7 x11 x12 x13 x20 x21 x22 H =>
  pif (decide ((x22 : Int) < x21)) (B9 P N2 N5 x1 x3 x6 x7 x11 x12 x13 x20 x21 x22 H) (B4 P N2 x1 x3 x7 x11 x12 x13 H)
theorem q10 P N2 N5 : Q o10 (cnd 23 (E k3 (B9 P N2 N5)) (E k2 (B4 P N2))) k3 (B10 P N2 N5) := fun _ _ _ _ _ _ _ _ _ _ _ _ => by kernel_rfl
def L5 (P : PT) (N2 : Y k1) : Y k3 := fun x1 x3 x6 x7 x11 x12 x13 x20 x21 x22 H =>
  ∃ (I : Y k3) (μ : NTy k3 (AHeap → Nat)), I x1 x3 x6 x7 x11 x12 x13 x20 x21 x22 H ∧ ∀ y1 y3 y6 y7 y11 y12 y13 y20 y21 y22 G, I y1 y3 y6 y7 y11 y12 y13 y20 y21 y22 G → B10 P N2 (fun z1 z3 z6 z7 z11 z12 z13 z20 z21 z22 G' => I z1 z3 z6 z7 z11 z12 z13 z20 z21 z22 G' ∧ μ z1 z3 z6 z7 z11 z12 z13 z20 z21 z22 G' < μ y1 y3 y6 y7 y11 y12 y13 y20 y21 y22 G) y1 y3 y6 y7 y11 y12 y13 y20 y21 y22 G
theorem l5 P N2 : LQ k3 (L5 P N2) (B10 P N2) := fun ⟨_,_,_,_,_,_,_,_,_,_,_⟩ _ ⟨I, μ, h0, hI⟩ => ⟨apT _ I, apT _ μ, h0, fun ⟨_,_,_,_,_,_,_,_,_,_,_⟩ _ h => hI _ _ _ _ _ _ _ _ _ _ _  h⟩
abbrev k6 : Sk := [(1,.x),(3,.v),(6,.i .u64),(7,.v),(11,.v),(12,J),(13,J)]
def o11 := O 59804
def B11 (P : PT) (N2 : Y k1) : Y k6 := fun x1 x3 x6 x7 x11 x12 x13 H =>
  ld1 H x1 1 (fun v1 => lenK v1 (fun n2 => L5 P N2 x1 x3 x6 x7 x11 x12 x13 v1 (n2 : Int) 0 H))
theorem q11 P N2 : Q o11 (E k3 (L5 P N2)) k6 (B11 P N2) := fun _ _ _ _ _ _ _ _ _ => by kernel_rfl
abbrev k7 : Sk := [(1,.x),(3,.v),(6,.i .u64),(11,.v),(12,J),(13,J)]
def o12 := O 14950
def B12 (P : PT) (N2 : Y k1) : Y k7 := fun x1 x3 x6 x11 x12 x13 H =>
  B11 P N2 x1 x3 x6 (Value.slice none 0 0) x11 x12 x13 H
theorem q12 P N2 : Q o12 (E k6 (B11 P N2)) k7 (B12 P N2) := fun _ _ _ _ _ _ _ _ => by kernel_rfl
abbrev k8 : Sk := [(1,.x),(3,.v),(5,.v),(11,.v),(12,J),(13,J)]
def o13 := O 7474
def B13 (P : PT) (N2 : Y k1) : Y k8 := fun x1 x3 x5 x11 x12 x13 H =>
  AC Tryz.prog T0 89 [x5] H (fun v1 H2 => asI .u64 v1 (fun v3 => B12 P N2 x1 x3 v3 x11 x12 x13 H2))
theorem q13 P N2 : Q o13 (E k7 (B12 P N2)) k8 (B13 P N2) := fun _ _ _ _ _ _ _ _ => by kernel_rfl
def o14 := O 3736
def B14 (P : PT) (N2 : Y k1) : Y k1 := fun x1 x3 x11 x12 x13 H =>
  idxK x11 x13 1 (fun b1 o2 => ld1 H b1 o2 (fun v3 => B13 P N2 x1 x3 v3 x11 x12 x13 H))
theorem q14 P N2 : Q o14 (E k8 (B13 P N2)) k1 (B14 P N2) := fun _ _ _ _ _ _ _ => by kernel_rfl
def o15 := O 232
def B15 (P : PT) (N2 : Y k1) : Y k1 := fun x1 x3 x11 x12 x13 H =>
  pif (decide ((x13 : Int) < x12)) (B14 P N2 x1 x3 x11 x12 x13 H) (B1 P x3 H)
theorem q15 P N2 : Q o15 (cnd 14 (E k1 (B14 P N2)) (E k0 (B1 P))) k1 (B15 P N2) := fun _ _ _ _ _ _ _ => by kernel_rfl
def L2 (P : PT) : Y k1 := fun x1 x3 x11 x12 x13 H =>
  ∃ (I : Y k1) (μ : NTy k1 (AHeap → Nat)), I x1 x3 x11 x12 x13 H ∧ ∀ y1 y3 y11 y12 y13 G, I y1 y3 y11 y12 y13 G → B15 P (fun z1 z3 z11 z12 z13 G' => I z1 z3 z11 z12 z13 G' ∧ μ z1 z3 z11 z12 z13 G' < μ y1 y3 y11 y12 y13 G) y1 y3 y11 y12 y13 G
theorem l2 P : LQ k1 (L2 P) (B15 P) := fun ⟨_,_,_,_,_,_⟩ _ ⟨I, μ, h0, hI⟩ => ⟨apT _ I, apT _ μ, h0, fun ⟨_,_,_,_,_,_⟩ _ h => hI _ _ _ _ _ _  h⟩
abbrev k9 : Sk := [(1,.x),(3,.v)]
def o16 := O 28
def B16 (P : PT) : Y k9 := fun x1 x3 H =>
  ldI .i64 H x1 0 (fun v1 => ld1 H x1 1 (fun v2 => AC Tryz.prog T0 103 [(Value.agg ⟨[(Value.int .i64 v1), v2]⟩), (Value.int .u64 0)] H (fun v3 H4 => lenK v3 (fun n6 => L2 P x1 x3 v3 (n6 : Int) 0 H4))))
theorem q16 P : Q o16 (E k1 (L2 P)) k9 (B16 P) := fun _ _ _ _ => by kernel_rfl
abbrev k10 : Sk := [(1,.x)]
def o17 := O 6
def B17 (P : PT) : Y k10 := fun x1 H =>
  B16 P x1 (Value.slice none 0 0) H
theorem q17 P : Q o17 (E k9 (B16 P)) k10 (B17 P) := fun _ _ _ => by kernel_rfl
abbrev k11 : Sk := [(0,.g [.i,.v])]
def o18 := O 2
def B18 (P : PT) : Y k11 := fun x0a x0b H =>
  newK H [(Value.int .i64 x0a), x0b] 26 (fun b1 H2 => B17 P b1 H2)
theorem q18 P : Q o18 (E k10 (B17 P)) k11 (B18 P) := fun _ _ _ _ => by kernel_rfl
def code : Code := (.seq (R 0 o18) (.seq (R 1 o17) (.seq (.seq (R 2 o16) (.block 0 (.loop (.seq (R 3 o15) (.seq (.cond (.tmp 14) .skip (.exit 0)) (.seq (.block 1 (.seq (R 4 o14) (.seq (R 5 o13) (.seq (R 6 o12) (.seq (.seq (R 7 o11) (.block 2 (.loop (.seq (R 8 o10) (.seq (.cond (.tmp 23) .skip (.exit 2)) (.seq (.block 3 (.seq (R 9 o9) (.seq (R 10 o8) (.cond (.tmp 30) (R 11 o7) .skip)))) (R 12 o6))))))) (R 13 o4)))))) (R 14 o3))))))) (.seq (R 15 o1) .ret))))
theorem body : Tryz.f178.body = some code := by kernel_rfl
theorem main (P : PT) : ∀ env H, (En 42 k11 (B18 P)) env H → AW Tryz.prog T0 code env H (M (ret P)) :=
  (r_seq (b (q18 P)) (r_seq (b (q17 P)) (r_seq (r_seq (b (q16 P)) (r_block (rL (l2 P) (fun N2 => (r_seq (b (q15 P N2)) (r_seq (r_cond rfl r_skip (r_exit (fun _ _ h => h))) (r_seq (r_block (r_seq (b (q14 P N2)) (r_seq (b (q13 P N2)) (r_seq (b (q12 P N2)) (r_seq (r_seq (b (q11 P N2)) (r_block (rL (l5 P N2) (fun N5 => (r_seq (b (q10 P N2 N5)) (r_seq (r_cond rfl r_skip (r_exit (fun _ _ h => h))) (r_seq (r_block (r_seq (b (q9 P N2 N5)) (r_seq (b (q8 P N2 N5)) (r_cond rfl (b (q7 P N2 N5)) r_skip)))) (b (q6 P N2 N5))))))))) (b (q4 P N2))))))) (b (q3 P N2))))))))) (r_seq (b (q1 P)) r_ret))))
theorem ac (P : PT) (x0a : Int) (x0b : Value) (H : AHeap) (h : B18 P x0a x0b H) : AC Tryz.prog T0 178 [(Value.agg ⟨[(Value.int .i64 x0a), x0b]⟩)] H P :=
  r_fn T0_ok (c := code) (n := 42) Tryz.func178 body (by kernel_rfl) (main P) (En_mk (x0a, x0b, ()) (by kernel_rfl) ⟨by kernel_rfl, trivial⟩ h)

end F178
namespace F179
abbrev E := En 40
abbrev Q := QB Tryz.prog T0 40
def O (k : Nat) := ob Tryz.f179 (pth k)
def ret (P : PT) : EP := retE T0 40 Tryz.f179 P
abbrev k0 : Sk := [(9,.v)]
def o1 := O 30
def B1 (P : PT) : Y k0 := fun x9 H =>
  P x9 H
theorem q1 P : Q o1 (ret P) k0 (B1 P) := fun _ _ _ => by kernel_rfl
abbrev k1 : Sk := [(9,.v),(27,.v),(28,J),(29,J)]
def o3 := O 3751
def B3 (P : PT) (N2 : Y k1) : Y k1 := fun x9 x27 x28 x29 H =>
  N2 x9 x27 x28 (IntKind.i64.wrap (x29 + 1)) H
theorem q3 P N2 : Q o3 (E k1 N2) k1 (B3 P N2) := fun _ _ _ _ _ _ => by kernel_rfl
abbrev k2 : Sk := [(9,.v),(10,J),(11,J),(27,.v),(28,J),(29,J)]
def o4 := O 15001
def B4 (P : PT) (N2 : Y k1) : Y k2 := fun x9 x10 x11 x27 x28 x29 H =>
  AC Tryz.prog T0 212 [x9, (Value.int .i64 x11), (Value.int .i64 x10)] H (fun v1 H2 => asTup v1 (fun l3 => B3 P N2 x9 x27 x28 x29 H2))
theorem q4 P N2 : Q o4 (E k1 (B3 P N2)) k2 (B4 P N2) := fun _ _ _ _ _ _ _ _ => by kernel_rfl
def o5 := O 15000
def B5 (P : PT) (N2 : Y k1) : Y k1 := fun x9 x27 x28 x29 H =>
  idxK x27 x29 1 (fun b1 o2 => ldI .i64 H b1 o2 (fun v3 => B4 P N2 x9 x29 v3 x27 x28 x29 H))
theorem q5 P N2 : Q o5 (E k2 (B4 P N2)) k1 (B5 P N2) := fun _ _ _ _ _ _ => by kernel_rfl
def o6 := O 936
def B6 (P : PT) (N2 : Y k1) : Y k1 := fun x9 x27 x28 x29 H =>
  pif (decide ((x29 : Int) < x28)) (B5 P N2 x9 x27 x28 x29 H) (B1 P x9 H)
theorem q6 P N2 : Q o6 (cnd 30 (E k1 (B5 P N2)) (E k0 (B1 P))) k1 (B6 P N2) := fun _ _ _ _ _ _ => by kernel_rfl
def L2 (P : PT) : Y k1 := fun x9 x27 x28 x29 H =>
  ∃ (I : Y k1) (μ : NTy k1 (AHeap → Nat)), I x9 x27 x28 x29 H ∧ ∀ y9 y27 y28 y29 G, I y9 y27 y28 y29 G → B6 P (fun z9 z27 z28 z29 G' => I z9 z27 z28 z29 G' ∧ μ z9 z27 z28 z29 G' < μ y9 y27 y28 y29 G) y9 y27 y28 y29 G
theorem l2 P : LQ k1 (L2 P) (B6 P) := fun ⟨_,_,_,_,_⟩ _ ⟨I, μ, h0, hI⟩ => ⟨apT _ I, apT _ μ, h0, fun ⟨_,_,_,_,_⟩ _ h => hI _ _ _ _ _  h⟩
abbrev k3 : Sk := [(4,.x),(9,.v)]
def o7 := O 116
def B7 (P : PT) : Y k3 := fun x4 x9 H =>
  ldI .i64 H x4 0 (fun v1 => ld1 H x4 1 (fun v2 => AC Tryz.prog T0 161 [(Value.agg ⟨[(Value.int .i64 v1), v2]⟩), (Value.int .i64 0)] H (fun v3 H4 => lenK v3 (fun n6 => L2 P x9 v3 (n6 : Int) 0 H4))))
theorem q7 P : Q o7 (E k1 (L2 P)) k3 (B7 P) := fun _ _ _ _ => by kernel_rfl
abbrev k4 : Sk := [(2,.b),(4,.x),(9,.v)]
def o8 := O 28
def B8 (P : PT) : Y k4 := fun x2 x4 x9 H =>
  pif x2 (B7 P x4 x9 H) (B1 P x9 H)
theorem q8 P : Q o8 (cnd 25 (E k3 (B7 P)) (E k0 (B1 P))) k4 (B8 P) := fun _ _ _ _ _ => by kernel_rfl
abbrev k5 : Sk := [(1,.v),(2,.b),(3,.v),(4,.x)]
def o9 := O 6
def B9 (P : PT) : Y k5 := fun x1 x2 x3 x4 H =>
  ldI .i64 H x4 0 (fun v1 => ld1 H x4 1 (fun v2 => ld1 H x4 1 (fun v3 => lenK v3 (fun n4 => ldI .i64 H x4 0 (fun v5 => (newK H [(Value.int .i64 (-1))] 2 (fun b6 H7 => (AC Tryz.prog T0 192 [(Value.slice (some ⟨b6, 0, none⟩) 1 (1 + 1)), (Value.int .i64 (n4 : Int))] H7 (fun v8 H9 => (ldI .i64 H9 x4 0 (fun v11 => ld1 H9 x4 1 (fun v12 => ((Value.agg ⟨[(Value.int .i64 v11), v12]⟩) = (Value.agg ⟨[(Value.int .i64 v1), v2]⟩)) ∧ (H9 = H9)))) ∧ ((ldI .i64 H9 x4 0 (fun v13 => ((Value.int .i64 v13) = (Value.int .i64 v5)) ∧ (H9 = H9))) ∧ (mkR H9 8 81 [(Value.int .u64 0)] v5 v5 (fun v15 H14 => pif (Value.oneCell' x1) (pif (Value.oneCell' v8) (pif (Value.oneCell' v15) (pif (Value.oneCell' x3) (newK H14 [(Value.int .i64 v1), v2, x1, v8, v15, x3] 187 (fun b16 H17 => B8 P x2 x4 (Value.pointer (some ⟨b16, 0, none⟩)) H17)) False) False) False) False))))) ∧ (mkR H7 8 81 [(Value.int .u64 0)] v5 v5 (fun v19 H18 => AC Tryz.prog T0 192 [(Value.slice (some ⟨b6, 0, none⟩) 1 (1 + 1)), (Value.int .i64 (n4 : Int))] H18 (fun v20 H21 => (ldI .i64 H21 x4 0 (fun v23 => ld1 H21 x4 1 (fun v24 => ((Value.agg ⟨[(Value.int .i64 v23), v24]⟩) = (Value.agg ⟨[(Value.int .i64 v1), v2]⟩)) ∧ (H21 = H21)))) ∧ ((ldI .i64 H21 x4 0 (fun v25 => ((Value.int .i64 v25) = (Value.int .i64 v5)) ∧ (H21 = H21))) ∧ (pif (Value.oneCell' x1) (pif (Value.oneCell' v20) (pif (Value.oneCell' v19) (pif (Value.oneCell' x3) (newK H21 [(Value.int .i64 v1), v2, x1, v20, v19, x3] 187 (fun b26 H27 => B8 P x2 x4 (Value.pointer (some ⟨b26, 0, none⟩)) H27)) False) False) False) False))))))) ∧ (mkR H 8 81 [(Value.int .u64 0)] v5 v5 (fun v29 H28 => newK H28 [(Value.int .i64 (-1))] 2 (fun b30 H31 => AC Tryz.prog T0 192 [(Value.slice (some ⟨b30, 0, none⟩) 1 (1 + 1)), (Value.int .i64 (n4 : Int))] H31 (fun v32 H33 => (ldI .i64 H33 x4 0 (fun v35 => ld1 H33 x4 1 (fun v36 => ((Value.agg ⟨[(Value.int .i64 v35), v36]⟩) = (Value.agg ⟨[(Value.int .i64 v1), v2]⟩)) ∧ (H33 = H33)))) ∧ ((ldI .i64 H33 x4 0 (fun v37 => ((Value.int .i64 v37) = (Value.int .i64 v5)) ∧ (H33 = H33))) ∧ (pif (Value.oneCell' x1) (pif (Value.oneCell' v32) (pif (Value.oneCell' v29) (pif (Value.oneCell' x3) (newK H33 [(Value.int .i64 v1), v2, x1, v32, v29, x3] 187 (fun b38 H39 => B8 P x2 x4 (Value.pointer (some ⟨b38, 0, none⟩)) H39)) False) False) False) False)))))))))))
theorem q9 (P : PT) : QT Tryz.prog T0 40 o9 (.op 0 [] (.op 1 [] (.op 3 [] (.op 4 [] (.op 5 [] (.op 7 [] (.op 8 [] (.op 10 [] (.alt (.op 2 [] (.alt (.op 6 [0, 8] (.op 9 [] (.op 11 [] (.op 12 [] (.op 13 [] .done))))) (.op 9 [] (.op 6 [0, 8] (.op 11 [] (.op 12 [] (.op 13 [] .done))))))) (.op 9 [] (.op 2 [] (.op 6 [0, 8] (.op 11 [] (.op 12 [] (.op 13 [] .done))))))))))))))) (En 40 k4 (B8 P)) k5 (B9 P) := fun _ _ _ _ _ _  => by kernel_rfl
abbrev k6 : Sk := [(0,.g [.i,.v]),(1,.v),(2,.b),(3,.v)]
def o10 := O 2
def B10 (P : PT) : Y k6 := fun x0a x0b x1 x2 x3 H =>
  newK H [(Value.int .i64 x0a), x0b] 26 (fun b1 H2 => B9 P x1 x2 x3 b1 H2)
theorem q10 P : Q o10 (E k5 (B9 P)) k6 (B10 P) := fun _ _ _ _ _ _ _ => by kernel_rfl
def code : Code := (.seq (R 0 o10) (.seq (.region 1 ⟨o9⟩ true) (.seq (.seq (R 2 o8) (.cond (.tmp 25) (.seq (R 3 o7) (.block 0 (.loop (.seq (R 4 o6) (.seq (.cond (.tmp 30) .skip (.exit 0)) (.seq (.block 1 (.seq (R 5 o5) (R 6 o4))) (R 7 o3))))))) .skip)) (.seq (R 8 o1) .ret))))
theorem body : Tryz.f179.body = some code := by kernel_rfl
theorem main (P : PT) : ∀ env H, (En 40 k6 (B10 P)) env H → AW Tryz.prog T0 code env H (M (ret P)) :=
  (r_seq (b (q10 P)) (r_seq (rT T0_ok mixed (.op 0 [] (.op 1 [] (.op 3 [] (.op 4 [] (.op 5 [] (.op 7 [] (.op 8 [] (.op 10 [] (.alt (.op 2 [] (.alt (.op 6 [0, 8] (.op 9 [] (.op 11 [] (.op 12 [] (.op 13 [] .done))))) (.op 9 [] (.op 6 [0, 8] (.op 11 [] (.op 12 [] (.op 13 [] .done))))))) (.op 9 [] (.op 2 [] (.op 6 [0, 8] (.op 11 [] (.op 12 [] (.op 13 [] .done))))))))))))))) (by kernel_rfl) (q9 P)) (r_seq (r_seq (b (q8 P)) (r_cond rfl (r_seq (b (q7 P)) (r_block (rL (l2 P) (fun N2 => (r_seq (b (q6 P N2)) (r_seq (r_cond rfl r_skip (r_exit (fun _ _ h => h))) (r_seq (r_block (r_seq (b (q5 P N2)) (b (q4 P N2)))) (b (q3 P N2))))))))) r_skip)) (r_seq (b (q1 P)) r_ret))))
theorem ac (P : PT) (x0a : Int) (x0b x1 : Value) (x2 : Bool) (x3 : Value) (H : AHeap) (h : B10 P x0a x0b x1 x2 x3 H) : AC Tryz.prog T0 179 [(Value.agg ⟨[(Value.int .i64 x0a), x0b]⟩), x1, (Value.bool x2), x3] H P :=
  r_fn T0_ok (c := code) (n := 40) Tryz.func179 body (by kernel_rfl) (main P) (En_mk (x0a, x0b, x1, x2, x3, ()) (by kernel_rfl) ⟨by kernel_rfl, by kernel_rfl, by kernel_rfl, by kernel_rfl, trivial⟩ h)

end F179
namespace F180
abbrev E := En 6
abbrev Q := QB Tryz.prog T0 6
def O (k : Nat) := ob Tryz.f180 (pth k)
def ret (P : PT) : EP := retE T0 6 Tryz.f180 P
abbrev k0 : Sk := []
def o1 := O 14
def B1 (P : PT) : Y k0 := fun H =>
  P (Value.bool false) H
theorem q1 P : Q o1 (ret P) k0 (B1 P) := fun _ _ => by kernel_rfl
abbrev k1 : Sk := [(1,.v)]
def o2 := O 6
def B2 (P : PT) : Y k1 := fun x1 H =>
  asP x1 (fun b1 o2 => ldI .i64 H b1 o2 (fun v3 => asP x1 (fun b4 o5 => stK H b4 o5 [(Value.int .i64 (IntKind.i64.wrap (v3 + 1)))] (fun H6 => B1 P H6))))
theorem q2 P : Q o2 (E k0 (B1 P)) k1 (B2 P) := fun _ _ _ => by kernel_rfl
def o3 := O 2
def B3 (P : PT) : Y k1 := fun x1 H =>
  B2 P x1 H
theorem q3 P : Q o3 (E k1 (B2 P)) k1 (B3 P) := fun _ _ _ => by kernel_rfl
def code : Code := (.seq (R 0 o3) (.seq (R 1 o2) (.seq (R 2 o1) .ret)))
theorem body : Tryz.f180.body = some code := by kernel_rfl
theorem main (P : PT) : ∀ env H, (En 6 k1 (B3 P)) env H → AW Tryz.prog T0 code env H (M (ret P)) :=
  (r_seq (b (q3 P)) (r_seq (b (q2 P)) (r_seq (b (q1 P)) r_ret)))
theorem ac (P : PT) (x0 x1 : Value) (H : AHeap) (h : B3 P x1 H) : AC Tryz.prog T0 180 [x0, x1] H P :=
  r_fn T0_ok (c := code) (n := 6) Tryz.func180 body (by kernel_rfl) (main P) (En_mk (x1, ()) (by kernel_rfl) ⟨by kernel_rfl, trivial⟩ h)

end F180
namespace F181
abbrev E := En 57
abbrev Q := QB Tryz.prog T0 57
def O (k : Nat) := ob Tryz.f181 (pth k)
def ret (P : PT) : EP := retE T0 57 Tryz.f181 P
abbrev k0 : Sk := [(0,.v)]
def o1 := O 14
def B1 (P : PT) : Y k0 := fun x0 H =>
  AC Tryz.prog T0 213 [x0, (Value.int .i64 0)] H (fun v1 H2 => asB v1 (fun v3 => P (Value.bool v3) H2))
theorem q1 P : Q o1 (ret P) k0 (B1 P) := fun _ _ _ => by kernel_rfl
abbrev k1 : Sk := [(0,.v),(11,J),(12,J)]
def o3 := O 423
def B3 (P : PT) (N2 : Y k1) : Y k1 := fun x0 x11 x12 H =>
  N2 x0 x11 (IntKind.i64.wrap (x12 + 1)) H
theorem q3 P N2 : Q o3 (E k1 N2) k1 (B3 P N2) := fun _ _ _ _ _ => by kernel_rfl
abbrev k2 : Sk := [(0,.v),(4,.i .u64),(11,J),(12,J),(20,.v),(21,J),(22,J)]
def o5 := O 216295
def B5 (P : PT) (N2 : Y k1) (N4 : Y k2) : Y k2 := fun x0 x4 x11 x12 x20 x21 x22 H =>
  N4 x0 x4 x11 x12 x20 x21 (IntKind.i64.wrap (x22 + 1)) H
theorem q5 P N2 N4 : Q o5 (E k2 N4) k2 (B5 P N2 N4) := fun _ _ _ _ _ _ _ _ _ => by kernel_rfl
abbrev k3 : Sk := [(0,.v),(4,.i .u64),(6,J),(11,J),(12,J),(20,.v),(21,J),(22,J)]
def o6 := O 3460711
def B6 (P : PT) (N2 : Y k1) (N4 : Y k2) : Y k3 := fun x0 x4 x6 x11 x12 x20 x21 x22 H =>
  nilK x0 (fun v1 => asP v1 (fun b2 o3 => ld1 H b2 (o3 + 3) (fun v4 => idxK v4 x6 1 (fun b5 o6 => ldI .i64 H b5 o6 (fun v7 => ((0 : Int) ≤ v7) ∧ (B5 P N2 N4 x0 (IntKind.u64.wrap (BitVec.ofInt 64 x4 ||| BitVec.ofInt 64 (IntKind.u64.wrap (1 * 2 ^ (min (Int.toNat v7) 64)))).toNat) x11 x12 x20 x21 x22 H))))))
theorem q6 P N2 N4 : Q o6 (E k2 (B5 P N2 N4)) k3 (B6 P N2 N4) := fun _ _ _ _ _ _ _ _ _ _ => by kernel_rfl
abbrev k4 : Sk := []
def o7 := O 27685684
def B7 (P : PT) (N2 : Y k1) (N4 : Y k2) : Y k4 := fun H =>
  P (Value.bool false) H
theorem q7 P N2 N4 : Q o7 (ret P) k4 (B7 P N2 N4) := fun _ _ => by kernel_rfl
def o8 := O 6921420
def B8 (P : PT) (N2 : Y k1) (N4 : Y k2) : Y k3 := fun x0 x4 x6 x11 x12 x20 x21 x22 H =>
  nilK x0 (fun v1 => asP v1 (fun b2 o3 => ld1 H b2 (o3 + 3) (fun v4 => idxK v4 x6 1 (fun b5 o6 => ldI .i64 H b5 o6 (fun v7 => AC Tryz.prog T0 134 [(Value.int .u64 x4), (Value.int .i64 v7)] H (fun v8 H9 => asB v8 (fun v10 => pif v10 (B7 P N2 N4 H9) (B6 P N2 N4 x0 x4 x6 x11 x12 x20 x21 x22 H9))))))))
theorem q8 P N2 N4 : Q o8 (cnd 42 (E k4 (B7 P N2 N4)) (E k3 (B6 P N2 N4))) k3 (B8 P N2 N4) := fun _ _ _ _ _ _ _ _ _ _ => by kernel_rfl
def o9 := O 3460708
def B9 (P : PT) (N2 : Y k1) (N4 : Y k2) : Y k3 := fun x0 x4 x6 x11 x12 x20 x21 x22 H =>
  nilK x0 (fun v1 => asP v1 (fun b2 o3 => ld1 H b2 (o3 + 3) (fun v4 => idxK v4 x6 1 (fun b5 o6 => ldI .i64 H b5 o6 (fun v7 => pif ((v7 : Int) == (-1)) (B5 P N2 N4 x0 x4 x11 x12 x20 x21 x22 H) (B8 P N2 N4 x0 x4 x6 x11 x12 x20 x21 x22 H))))))
theorem q9 P N2 N4 : Q o9 (cnd 33 (E k2 (B5 P N2 N4)) (E k3 (B8 P N2 N4))) k3 (B9 P N2 N4) := fun _ _ _ _ _ _ _ _ _ _ => by kernel_rfl
def o10 := O 865176
def B10 (P : PT) (N2 : Y k1) (N4 : Y k2) : Y k2 := fun x0 x4 x11 x12 x20 x21 x22 H =>
  idxK x20 x22 1 (fun b1 o2 => ldI .i64 H b1 o2 (fun v3 => B9 P N2 N4 x0 x4 v3 x11 x12 x20 x21 x22 H))
theorem q10 P N2 N4 : Q o10 (E k3 (B9 P N2 N4)) k2 (B10 P N2 N4) := fun _ _ _ _ _ _ _ _ _ => by kernel_rfl
def o11 := O 54072
def B11 (P : PT) (N2 : Y k1) (N4 : Y k2) : Y k2 := fun x0 x4 x11 x12 x20 x21 x22 H =>
  pif (decide ((x22 : Int) < x21)) (B10 P N2 N4 x0 x4 x11 x12 x20 x21 x22 H) (B3 P N2 x0 x11 x12 H)
theorem q11 P N2 N4 : Q o11 (cnd 23 (E k2 (B10 P N2 N4)) (E k1 (B3 P N2))) k2 (B11 P N2 N4) := fun _ _ _ _ _ _ _ _ _ => by kernel_rfl
def L4 (P : PT) (N2 : Y k1) : Y k2 := fun x0 x4 x11 x12 x20 x21 x22 H =>
  ∃ (I : Y k2) (μ : NTy k2 (AHeap → Nat)), I x0 x4 x11 x12 x20 x21 x22 H ∧ ∀ y0 y4 y11 y12 y20 y21 y22 G, I y0 y4 y11 y12 y20 y21 y22 G → B11 P N2 (fun z0 z4 z11 z12 z20 z21 z22 G' => I z0 z4 z11 z12 z20 z21 z22 G' ∧ μ z0 z4 z11 z12 z20 z21 z22 G' < μ y0 y4 y11 y12 y20 y21 y22 G) y0 y4 y11 y12 y20 y21 y22 G
theorem l4 P N2 : LQ k2 (L4 P N2) (B11 P N2) := fun ⟨_,_,_,_,_,_,_,_⟩ _ ⟨I, μ, h0, hI⟩ => ⟨apT _ I, apT _ μ, h0, fun ⟨_,_,_,_,_,_,_,_⟩ _ h => hI _ _ _ _ _ _ _ _  h⟩
abbrev k5 : Sk := [(0,.v),(3,J),(4,.i .u64),(11,J),(12,J)]
def o12 := O 6758
def B12 (P : PT) (N2 : Y k1) : Y k5 := fun x0 x3 x4 x11 x12 H =>
  nilK x0 (fun v1 => asP v1 (fun b2 o3 => ldI .i64 H b2 o3 (fun v4 => ld1 H b2 (o3 + 1) (fun v5 => AC Tryz.prog T0 161 [(Value.agg ⟨[(Value.int .i64 v4), v5]⟩), (Value.int .i64 x3)] H (fun v6 H7 => lenK v6 (fun n9 => L4 P N2 x0 x4 x11 x12 v6 (n9 : Int) 0 H7))))))
theorem q12 P N2 : Q o12 (E k2 (L4 P N2)) k5 (B12 P N2) := fun _ _ _ _ _ _ _ => by kernel_rfl
abbrev k6 : Sk := [(0,.v),(3,J),(11,J),(12,J)]
def o13 := O 3378
def B13 (P : PT) (N2 : Y k1) : Y k6 := fun x0 x3 x11 x12 H =>
  B12 P N2 x0 x3 0 x11 x12 H
theorem q13 P N2 : Q o13 (E k5 (B12 P N2)) k6 (B13 P N2) := fun _ _ _ _ _ _ => by kernel_rfl
def o14 := O 1688
def B14 (P : PT) (N2 : Y k1) : Y k1 := fun x0 x11 x12 H =>
  B13 P N2 x0 x12 x11 x12 H
theorem q14 P N2 : Q o14 (E k6 (B13 P N2)) k1 (B14 P N2) := fun _ _ _ _ _ => by kernel_rfl
def o15 := O 104
def B15 (P : PT) (N2 : Y k1) : Y k1 := fun x0 x11 x12 H =>
  pif (decide ((x12 : Int) < x11)) (B14 P N2 x0 x11 x12 H) (B1 P x0 H)
theorem q15 P N2 : Q o15 (cnd 13 (E k1 (B14 P N2)) (E k0 (B1 P))) k1 (B15 P N2) := fun _ _ _ _ _ => by kernel_rfl
def L2 (P : PT) : Y k1 := fun x0 x11 x12 H =>
  ∃ (I : Y k1) (μ : NTy k1 (AHeap → Nat)), I x0 x11 x12 H ∧ ∀ y0 y11 y12 G, I y0 y11 y12 G → B15 P (fun z0 z11 z12 G' => I z0 z11 z12 G' ∧ μ z0 z11 z12 G' < μ y0 y11 y12 G) y0 y11 y12 G
theorem l2 P : LQ k1 (L2 P) (B15 P) := fun ⟨_,_,_,_⟩ _ ⟨I, μ, h0, hI⟩ => ⟨apT _ I, apT _ μ, h0, fun ⟨_,_,_,_⟩ _ h => hI _ _ _ _  h⟩
def o16 := O 12
def B16 (P : PT) : Y k0 := fun x0 H =>
  nilK x0 (fun v1 => asP v1 (fun b2 o3 => ldI .i64 H b2 o3 (fun v4 => L2 P x0 v4 0 H)))
theorem q16 P : Q o16 (E k1 (L2 P)) k0 (B16 P) := fun _ _ _ => by kernel_rfl
def o17 := O 2
def B17 (P : PT) : Y k0 := fun x0 H =>
  B16 P x0 H
theorem q17 P : Q o17 (E k0 (B16 P)) k0 (B17 P) := fun _ _ _ => by kernel_rfl
def code : Code := (.seq (R 0 o17) (.seq (.seq (R 1 o16) (.block 0 (.loop (.seq (R 2 o15) (.seq (.cond (.tmp 13) .skip (.exit 0)) (.seq (.block 1 (.seq (R 3 o14) (.seq (R 4 o13) (.seq (R 5 o12) (.block 2 (.loop (.seq (R 6 o11) (.seq (.cond (.tmp 23) .skip (.exit 2)) (.seq (.block 3 (.seq (R 7 o10) (.seq (.seq (R 8 o9) (.cond (.tmp 33) (.exit 3) .skip)) (.seq (.seq (R 9 o8) (.cond (.tmp 42) (.seq (R 10 o7) .ret) .skip)) (R 11 o6))))) (R 12 o5)))))))))) (R 13 o3))))))) (.seq (R 14 o1) .ret)))
theorem body : Tryz.f181.body = some code := by kernel_rfl
theorem main (P : PT) : ∀ env H, (En 57 k0 (B17 P)) env H → AW Tryz.prog T0 code env H (M (ret P)) :=
  (r_seq (b (q17 P)) (r_seq (r_seq (b (q16 P)) (r_block (rL (l2 P) (fun N2 => (r_seq (b (q15 P N2)) (r_seq (r_cond rfl r_skip (r_exit (fun _ _ h => h))) (r_seq (r_block (r_seq (b (q14 P N2)) (r_seq (b (q13 P N2)) (r_seq (b (q12 P N2)) (r_block (rL (l4 P N2) (fun N4 => (r_seq (b (q11 P N2 N4)) (r_seq (r_cond rfl r_skip (r_exit (fun _ _ h => h))) (r_seq (r_block (r_seq (b (q10 P N2 N4)) (r_seq (r_seq (b (q9 P N2 N4)) (r_cond rfl (r_exit (fun _ _ h => h)) r_skip)) (r_seq (r_seq (b (q8 P N2 N4)) (r_cond rfl (r_seq (b (q7 P N2 N4)) r_ret) r_skip)) (b (q6 P N2 N4)))))) (b (q5 P N2 N4)))))))))))) (b (q3 P N2))))))))) (r_seq (b (q1 P)) r_ret)))
theorem ac (P : PT) (x0 : Value) (H : AHeap) (h : B17 P x0 H) : AC Tryz.prog T0 181 [x0] H P :=
  r_fn T0_ok (c := code) (n := 57) Tryz.func181 body (by kernel_rfl) (main P) (En_mk (x0, ()) (by kernel_rfl) ⟨by kernel_rfl, trivial⟩ h)

end F181
namespace F182
abbrev E := En 69
abbrev Q := QB Tryz.prog T0 69
def O (k : Nat) := ob Tryz.f182 (pth k)
def ret (P : PT) : EP := retE T0 69 Tryz.f182 P
abbrev k0 : Sk := [(3,.v)]
def o1 := O 30
def B1 (P : PT) : Y k0 := fun x3 H =>
  P x3 H
theorem q1 P : Q o1 (ret P) k0 (B1 P) := fun _ _ _ => by kernel_rfl
abbrev k1 : Sk := [(0,.v),(3,.v),(4,J)]
def o3 := O 467
def B3 (P : PT) (N2 : Y k1) : Y k1 := fun x0 x3 x4 H =>
  N2 x0 x3 (IntKind.i64.wrap (x4 + 1)) H
theorem q3 P N2 : Q o3 (E k1 N2) k1 (B3 P N2) := fun _ _ _ _ _ => by kernel_rfl
abbrev k2 : Sk := [(0,.v),(3,.v),(4,J),(5,.x),(6,J)]
def o4 := O 7463
def B4 (P : PT) (N2 : Y k1) : Y k2 := fun x0 x3 x4 x5 x6 H =>
  ldI .i64 H x5 0 (fun v1 => ldI .i64 H x5 1 (fun v2 => idxK x3 x6 2 (fun b3 o4 => stK H b3 o4 [(Value.int .i64 v1), (Value.int .i64 v2)] (fun H5 => B3 P N2 x0 x3 x4 H5))))
theorem q4 P N2 : Q o4 (E k1 (B3 P N2)) k2 (B4 P N2) := fun _ _ _ _ _ _ _ => by kernel_rfl
def o6 := O 238789
def B6 (P : PT) (N2 : Y k1) (N5 : Y k2) : Y k2 := fun x0 x3 x4 x5 x6 H =>
  N5 x0 x3 x4 x5 (IntKind.i64.wrap (x6 - 1)) H
theorem q6 P N2 N5 : Q o6 (E k2 N5) k2 (B6 P N2 N5) := fun _ _ _ _ _ _ _ => by kernel_rfl
def o7 := O 238788
def B7 (P : PT) (N2 : Y k1) (N5 : Y k2) : Y k2 := fun x0 x3 x4 x5 x6 H =>
  idxK x3 (IntKind.i64.wrap (x6 - 1)) 2 (fun b1 o2 => ldI .i64 H b1 o2 (fun v3 => ldI .i64 H b1 (o2 + 1) (fun v4 => idxK x3 x6 2 (fun b5 o6 => stK H b5 o6 [(Value.int .i64 v3), (Value.int .i64 v4)] (fun H7 => B6 P N2 N5 x0 x3 x4 x5 x6 H7)))))
theorem q7 P N2 N5 : Q o7 (E k2 (B6 P N2 N5)) k2 (B7 P N2 N5) := fun _ _ _ _ _ _ _ => by kernel_rfl
def o8 := O 119392
def B8 (P : PT) (N2 : Y k1) (N5 : Y k2) : Y k2 := fun x0 x3 x4 x5 x6 H =>
  pif (decide ((x6 : Int) > 0)) (ldI .i64 H x5 0 (fun v1 => ldI .i64 H x5 1 (fun v2 => idxK x3 (IntKind.i64.wrap (x6 - 1)) 2 (fun b3 o4 => ldI .i64 H b3 o4 (fun v5 => ldI .i64 H b3 (o4 + 1) (fun v6 => AC Tryz.prog T0 146 [(Value.agg ⟨[(Value.int .i64 v1), (Value.int .i64 v2)]⟩), (Value.agg ⟨[(Value.int .i64 v5), (Value.int .i64 v6)]⟩)] H (fun v7 H8 => asB v7 (fun v9 => pif v9 (B7 P N2 N5 x0 x3 x4 x5 x6 H8) (B4 P N2 x0 x3 x4 x5 x6 H8))))))))) (B4 P N2 x0 x3 x4 x5 x6 H)
theorem q8 (P : PT) (N2 : Y k1) (N5 : Y k2) : QD Tryz.prog T0 69 o8 [(0, false), (1, false), (2, false), (3, false), (4, false), (5, false), (6, false), (7, false), (8, false), (9, false), (10, false)] (cnd 53 (En 69 k2 (B7 P N2 N5)) (En 69 k2 (B4 P N2))) k2 (B8 P N2 N5) := fun _ _ _ _ _ _ _  => by kernel_rfl
def L5 (P : PT) (N2 : Y k1) : Y k2 := fun x0 x3 x4 x5 x6 H =>
  ∃ (I : Y k2) (μ : NTy k2 (AHeap → Nat)), I x0 x3 x4 x5 x6 H ∧ ∀ y0 y3 y4 y5 y6 G, I y0 y3 y4 y5 y6 G → B8 P N2 (fun z0 z3 z4 z5 z6 G' => I z0 z3 z4 z5 z6 G' ∧ μ z0 z3 z4 z5 z6 G' < μ y0 y3 y4 y5 y6 G) y0 y3 y4 y5 y6 G
theorem l5 P N2 : LQ k2 (L5 P N2) (B8 P N2) := fun ⟨_,_,_,_,_,_⟩ _ ⟨I, μ, h0, hI⟩ => ⟨apT _ I, apT _ μ, h0, fun ⟨_,_,_,_,_,_⟩ _ h => hI _ _ _ _ _ _  h⟩
def o9 := O 3730
def B9 (P : PT) (N2 : Y k1) : Y k2 := fun x0 x3 x4 x5 x6 H =>
  ldI .i64 H x5 0 (fun v1 => ldI .i64 H x5 1 (fun v2 => newK H [(Value.int .i64 v1), (Value.int .i64 v2)] 78 (fun b3 H4 => apK T0 78 H4 x3 (Value.slice (some ⟨b3, 0, none⟩) 1 (1 + 1)) (fun v5 H6 => L5 P N2 x0 v5 x4 x5 x6 H6))))
theorem q9 P N2 : Q o9 (E k2 (L5 P N2)) k2 (B9 P N2) := fun _ _ _ _ _ _ _ => by kernel_rfl
def o10 := O 1864
def B10 (P : PT) (N2 : Y k1) : Y k1 := fun x0 x3 x4 H =>
  idxK x0 x4 2 (fun b1 o2 => ldI .i64 H b1 o2 (fun v3 => idxK x0 x4 2 (fun b4 o5 => ldI .i64 H b4 (o5 + 1) (fun v6 => idxK x0 x4 2 (fun b7 o8 => ldI .i64 H b7 o8 (fun v9 => idxK x0 x4 2 (fun b10 o11 => ldI .i64 H b10 (o11 + 1) (fun v12 => lenK x3 (fun n13 => newK H [(Value.int .i64 0), (Value.int .i64 0)] 78 (fun b14 H15 => stK H15 b14 0 [(Value.int .i64 (if v6 < v3 then v6 else v3)), (Value.int .i64 (if v12 > v9 then v12 else v9))] (fun H16 => B9 P N2 x0 x3 x4 b14 (n13 : Int) H16)))))))))))
theorem q10 (P : PT) (N2 : Y k1) : QD Tryz.prog T0 69 o10 [(0, false), (1, false), (2, false), (3, false), (4, false), (5, false), (6, false), (7, false), (8, false), (9, false), (10, false), (11, false), (12, false), (13, false), (14, false), (15, false), (16, false), (17, false), (18, false), (19, false), (20, false), (21, false), (22, false), (23, false), (24, false), (25, false), (26, false), (27, false)] (En 69 k2 (B9 P N2)) k1 (B10 P N2) := fun _ _ _ _ _  => by kernel_rfl
def o11 := O 464
def B11 (P : PT) (N2 : Y k1) : Y k1 := fun x0 x3 x4 H =>
  lenK x0 (fun n1 => pif (decide ((x4 : Int) < (n1 : Int))) (B10 P N2 x0 x3 x4 H) (B1 P x3 H))
theorem q11 P N2 : Q o11 (cnd 11 (E k1 (B10 P N2)) (E k0 (B1 P))) k1 (B11 P N2) := fun _ _ _ _ _ => by kernel_rfl
def L2 (P : PT) : Y k1 := fun x0 x3 x4 H =>
  ∃ (I : Y k1) (μ : NTy k1 (AHeap → Nat)), I x0 x3 x4 H ∧ ∀ y0 y3 y4 G, I y0 y3 y4 G → B11 P (fun z0 z3 z4 G' => I z0 z3 z4 G' ∧ μ z0 z3 z4 G' < μ y0 y3 y4 G) y0 y3 y4 G
theorem l2 P : LQ k1 (L2 P) (B11 P) := fun ⟨_,_,_,_⟩ _ ⟨I, μ, h0, hI⟩ => ⟨apT _ I, apT _ μ, h0, fun ⟨_,_,_,_⟩ _ h => hI _ _ _ _  h⟩
abbrev k3 : Sk := [(0,.v),(3,.v)]
def o12 := O 28
def B12 (P : PT) : Y k3 := fun x0 x3 H =>
  L2 P x0 x3 0 H
theorem q12 P : Q o12 (E k1 (L2 P)) k3 (B12 P) := fun _ _ _ _ => by kernel_rfl
abbrev k4 : Sk := [(0,.v)]
def o13 := O 6
def B13 (P : PT) : Y k4 := fun x0 H =>
  newK H [] 78 (fun b1 H2 => B12 P x0 (Value.slice (some ⟨b1, 0, none⟩) 0 (0 + 1)) H2)
theorem q13 P : Q o13 (E k3 (B12 P)) k4 (B13 P) := fun _ _ _ => by kernel_rfl
def o14 := O 2
def B14 (P : PT) : Y k4 := fun x0 H =>
  B13 P x0 H
theorem q14 P : Q o14 (E k4 (B13 P)) k4 (B14 P) := fun _ _ _ => by kernel_rfl
def code : Code := (.seq (R 0 o14) (.seq (R 1 o13) (.seq (.seq (R 2 o12) (.block 0 (.loop (.seq (.seq (R 3 o11) (.cond (.tmp 11) .skip (.exit 0))) (.seq (.block 1 (.seq (.region 5 ⟨o10⟩ true) (.seq (R 6 o9) (.seq (.block 2 (.loop (.seq (.seq (.region 7 ⟨o8⟩ true) (.cond (.tmp 53) .skip (.exit 2))) (.block 3 (.seq (R 8 o7) (R 9 o6)))))) (R 10 o4))))) (R 4 o3)))))) (.seq (R 11 o1) .ret))))
theorem body : Tryz.f182.body = some code := by kernel_rfl
theorem main (P : PT) : ∀ env H, (En 69 k4 (B14 P)) env H → AW Tryz.prog T0 code env H (M (ret P)) :=
  (r_seq (b (q14 P)) (r_seq (b (q13 P)) (r_seq (r_seq (b (q12 P)) (r_block (rL (l2 P) (fun N2 => (r_seq (r_seq (b (q11 P N2)) (r_cond rfl r_skip (r_exit (fun _ _ h => h)))) (r_seq (r_block (r_seq (rD T0_ok mixed [(0, false), (1, false), (2, false), (3, false), (4, false), (5, false), (6, false), (7, false), (8, false), (9, false), (10, false), (11, false), (12, false), (13, false), (14, false), (15, false), (16, false), (17, false), (18, false), (19, false), (20, false), (21, false), (22, false), (23, false), (24, false), (25, false), (26, false), (27, false)] (by kernel_rfl) (q10 P N2)) (r_seq (b (q9 P N2)) (r_seq (r_block (rL (l5 P N2) (fun N5 => (r_seq (r_seq (rD T0_ok mixed [(0, false), (1, false), (2, false), (3, false), (4, false), (5, false), (6, false), (7, false), (8, false), (9, false), (10, false)] (by kernel_rfl) (q8 P N2 N5)) (r_cond rfl r_skip (r_exit (fun _ _ h => h)))) (r_block (r_seq (b (q7 P N2 N5)) (b (q6 P N2 N5)))))))) (b (q4 P N2)))))) (b (q3 P N2)))))))) (r_seq (b (q1 P)) r_ret))))
theorem ac (P : PT) (x0 : Value) (H : AHeap) (h : B14 P x0 H) : AC Tryz.prog T0 182 [x0] H P :=
  r_fn T0_ok (c := code) (n := 69) Tryz.func182 body (by kernel_rfl) (main P) (En_mk (x0, ()) (by kernel_rfl) ⟨by kernel_rfl, trivial⟩ h)

end F182
namespace F183
abbrev E := En 20
abbrev Q := QB Tryz.prog T0 20
def O (k : Nat) := ob Tryz.f183 (pth k)
def ret (P : PT) : EP := retE T0 20 Tryz.f183 P
abbrev k0 : Sk := [(1,.v),(2,.x)]
def o1 := O 6
def B1 (P : PT) : Y k0 := fun x1 x2 H =>
  ldI .i64 H x2 0 (fun v1 => AC Tryz.prog T0 214 [(Value.int .i64 v1)] H (fun v2 H3 => asB v2 (fun v4 => pif v4 (ldI .i64 H3 x2 0 (fun v5 => AC Tryz.prog T0 73 [x1] H3 (fun v6 H7 => asI .i64 v6 (fun v8 => (AHeap.le H3 H7) ∧ (pif ((v8 : Int) == (IntKind.i64.wrap (Int.tdiv (IntKind.i64.wrap (3 * v5)) 2))) (AC Tryz.prog T0 184 [x1, (Value.func (.func 215) ⟨[]⟩ ⟨[(Value.pointer (some ⟨x2, 0, none⟩))]⟩)] H7 (fun v9 H10 => asB v9 (fun v11 => P (Value.bool v11) H10))) (P (Value.bool false) H7)))))) (P (Value.bool false) H3))))
theorem q1 (P : PT) : QD Tryz.prog T0 20 o1 [(0, false), (1, false), (2, false), (3, false), (5, false), (6, false), (7, false), (4, true), (8, false), (9, false), (10, false), (11, false), (12, false), (13, false), (14, false), (15, false)] (ret P) k0 (B1 P) := fun _ _ _ _  => by kernel_rfl
abbrev k1 : Sk := [(0,J),(1,.v)]
def o2 := O 2
def B2 (P : PT) : Y k1 := fun x0 x1 H =>
  newK H [(Value.int .i64 x0)] 2 (fun b1 H2 => B1 P x1 b1 H2)
theorem q2 P : Q o2 (E k0 (B1 P)) k1 (B2 P) := fun _ _ _ _ => by kernel_rfl
def code : Code := (.seq (R 0 o2) (.seq (.region 1 ⟨o1⟩ true) .ret))
theorem body : Tryz.f183.body = some code := by kernel_rfl
theorem main (P : PT) : ∀ env H, (En 20 k1 (B2 P)) env H → AW Tryz.prog T0 code env H (M (ret P)) :=
  (r_seq (b (q2 P)) (r_seq (rD T0_ok mixed [(0, false), (1, false), (2, false), (3, false), (5, false), (6, false), (7, false), (4, true), (8, false), (9, false), (10, false), (11, false), (12, false), (13, false), (14, false), (15, false)] (by kernel_rfl) (q1 P)) r_ret))
theorem ac (P : PT) (x0 : Int) (x1 : Value) (H : AHeap) (h : B2 P x0 x1 H) : AC Tryz.prog T0 183 [(Value.int .i64 x0), x1] H P :=
  r_fn T0_ok (c := code) (n := 20) Tryz.func183 body (by kernel_rfl) (main P) (En_mk (x0, x1, ()) (by kernel_rfl) ⟨by kernel_rfl, by kernel_rfl, trivial⟩ h)

end F183
namespace F184
abbrev E := En 9
abbrev Q := QB Tryz.prog T0 9
def O (k : Nat) := ob Tryz.f184 (pth k)
def ret (P : PT) : EP := retE T0 9 Tryz.f184 P
abbrev k0 : Sk := [(0,.v),(3,.x)]
def o1 := O 6
def B1 (P : PT) : Y k0 := fun x0 x3 H =>
  AC Tryz.prog T0 216 [x0, (Value.func (.func 217) ⟨[]⟩ ⟨[(Value.pointer (some ⟨x3, 0, none⟩))]⟩)] H (fun v1 H2 => asB v1 (fun v3 => P (Value.bool (!v3)) H2))
theorem q1 P : Q o1 (ret P) k0 (B1 P) := fun _ _ _ _ => by kernel_rfl
abbrev k1 : Sk := [(0,.v),(1,.v)]
def o2 := O 2
def B2 (P : PT) : Y k1 := fun x0 x1 H =>
  pif (Value.oneCell' x1) (newK H [x1] 166 (fun b1 H2 => B1 P x0 b1 H2)) False
theorem q2 P : Q o2 (E k0 (B1 P)) k1 (B2 P) := fun _ _ _ _ => by kernel_rfl
def code : Code := (.seq (R 0 o2) (.seq (R 1 o1) .ret))
theorem body : Tryz.f184.body = some code := by kernel_rfl
theorem main (P : PT) : ∀ env H, (En 9 k1 (B2 P)) env H → AW Tryz.prog T0 code env H (M (ret P)) :=
  (r_seq (b (q2 P)) (r_seq (b (q1 P)) r_ret))
theorem ac (P : PT) (x0 x1 : Value) (H : AHeap) (h : B2 P x0 x1 H) : AC Tryz.prog T0 184 [x0, x1] H P :=
  r_fn T0_ok (c := code) (n := 9) Tryz.func184 body (by kernel_rfl) (main P) (En_mk (x0, x1, ()) (by kernel_rfl) ⟨by kernel_rfl, by kernel_rfl, trivial⟩ h)

end F184
namespace F185
abbrev E := En 8
abbrev Q := QB Tryz.prog T0 8
def O (k : Nat) := ob Tryz.f185 (pth k)
def ret (P : PT) : EP := retE T0 8 Tryz.f185 P
abbrev k0 : Sk := [(1,.x)]
def o1 := O 6
def B1 (P : PT) : Y k0 := fun x1 H =>
  ldI .i64 H x1 0 (fun v1 => ldI .i64 H x1 1 (fun v2 => P (Value.bool (decide ((v1 : Int) < v2))) H))
theorem q1 P : Q o1 (ret P) k0 (B1 P) := fun _ _ _ => by kernel_rfl
abbrev k1 : Sk := [(0,.g [.i,.i])]
def o2 := O 2
def B2 (P : PT) : Y k1 := fun x0a x0b H =>
  newK H [(Value.int .i64 x0a), (Value.int .i64 x0b)] 78 (fun b1 H2 => B1 P b1 H2)
theorem q2 P : Q o2 (E k0 (B1 P)) k1 (B2 P) := fun _ _ _ _ => by kernel_rfl
def code : Code := (.seq (R 0 o2) (.seq (R 1 o1) .ret))
theorem body : Tryz.f185.body = some code := by kernel_rfl
theorem main (P : PT) : ∀ env H, (En 8 k1 (B2 P)) env H → AW Tryz.prog T0 code env H (M (ret P)) :=
  (r_seq (b (q2 P)) (r_seq (b (q1 P)) r_ret))
theorem ac (P : PT) (x0a x0b : Int) (H : AHeap) (h : B2 P x0a x0b H) : AC Tryz.prog T0 185 [(Value.agg ⟨[(Value.int .i64 x0a), (Value.int .i64 x0b)]⟩)] H P :=
  r_fn T0_ok (c := code) (n := 8) Tryz.func185 body (by kernel_rfl) (main P) (En_mk (x0a, x0b, ()) (by kernel_rfl) ⟨by kernel_rfl, trivial⟩ h)

end F185
namespace F186
abbrev E := En 25
abbrev Q := QB Tryz.prog T0 25
def O (k : Nat) := ob Tryz.f186 (pth k)
def ret (P : PT) : EP := retE T0 25 Tryz.f186 P
abbrev k0 : Sk := []
def o1 := O 14
def B1 (P : PT) : Y k0 := fun H =>
  P (Value.bool true) H
theorem q1 P : Q o1 (ret P) k0 (B1 P) := fun _ _ => by kernel_rfl
abbrev k1 : Sk := [(0,.v),(1,.v),(5,J)]
def o3 := O 211
def B3 (P : PT) (N2 : Y k1) : Y k1 := fun x0 x1 x5 H =>
  N2 x0 x1 (IntKind.i64.wrap (x5 - 1)) H
theorem q3 P N2 : Q o3 (E k1 N2) k1 (B3 P N2) := fun _ _ _ _ _ => by kernel_rfl
def o4 := O 3364
def B4 (P : PT) (N2 : Y k1) : Y k0 := fun H =>
  P (Value.bool false) H
theorem q4 P N2 : Q o4 (ret P) k0 (B4 P N2) := fun _ _ => by kernel_rfl
def o5 := O 840
def B5 (P : PT) (N2 : Y k1) : Y k1 := fun x0 x1 x5 H =>
  idxK x0 x5 2 (fun b1 o2 => ldI .i64 H b1 o2 (fun v3 => ldI .i64 H b1 (o2 + 1) (fun v4 => idxK x0 (IntKind.i64.wrap (x5 - 1)) 2 (fun b5 o6 => ldI .i64 H b5 o6 (fun v7 => ldI .i64 H b5 (o6 + 1) (fun v8 => callV Tryz.prog T0 x1 [(Value.agg ⟨[(Value.int .i64 v3), (Value.int .i64 v4)]⟩), (Value.agg ⟨[(Value.int .i64 v7), (Value.int .i64 v8)]⟩)] H (fun v9 H10 => asI .i64 v9 (fun v11 => pif (decide ((v11 : Int) < 0)) (B4 P N2 H10) (B3 P N2 x0 x1 x5 H10)))))))))
theorem q5 (P : PT) (N2 : Y k1) : QD Tryz.prog T0 25 o5 [(0, false), (1, false), (2, false), (3, false), (4, false), (5, false), (6, false), (7, false), (8, false), (9, false), (10, false), (11, false)] (cnd 24 (En 25 k0 (B4 P N2)) (En 25 k1 (B3 P N2))) k1 (B5 P N2) := fun _ _ _ _ _  => by kernel_rfl
def o6 := O 208
def B6 (P : PT) (N2 : Y k1) : Y k1 := fun x0 x1 x5 H =>
  pif (decide ((x5 : Int) > 0)) (B5 P N2 x0 x1 x5 H) (B1 P H)
theorem q6 P N2 : Q o6 (cnd 10 (E k1 (B5 P N2)) (E k0 (B1 P))) k1 (B6 P N2) := fun _ _ _ _ _ => by kernel_rfl
def L2 (P : PT) : Y k1 := fun x0 x1 x5 H =>
  ∃ (I : Y k1) (μ : NTy k1 (AHeap → Nat)), I x0 x1 x5 H ∧ ∀ y0 y1 y5 G, I y0 y1 y5 G → B6 P (fun z0 z1 z5 G' => I z0 z1 z5 G' ∧ μ z0 z1 z5 G' < μ y0 y1 y5 G) y0 y1 y5 G
theorem l2 P : LQ k1 (L2 P) (B6 P) := fun ⟨_,_,_,_⟩ _ ⟨I, μ, h0, hI⟩ => ⟨apT _ I, apT _ μ, h0, fun ⟨_,_,_,_⟩ _ h => hI _ _ _ _  h⟩
abbrev k2 : Sk := [(0,.v),(1,.v)]
def o7 := O 12
def B7 (P : PT) : Y k2 := fun x0 x1 H =>
  lenK x0 (fun n1 => L2 P x0 x1 (IntKind.i64.wrap ((n1 : Int) - 1)) H)
theorem q7 P : Q o7 (E k1 (L2 P)) k2 (B7 P) := fun _ _ _ _ => by kernel_rfl
def o8 := O 2
def B8 (P : PT) : Y k2 := fun x0 x1 H =>
  B7 P x0 x1 H
theorem q8 P : Q o8 (E k2 (B7 P)) k2 (B8 P) := fun _ _ _ _ => by kernel_rfl
def code : Code := (.seq (R 0 o8) (.seq (.seq (R 1 o7) (.block 0 (.loop (.seq (.seq (R 2 o6) (.cond (.tmp 10) .skip (.exit 0))) (.seq (.block 1 (.seq (.region 4 ⟨o5⟩ true) (.cond (.tmp 24) (.seq (R 5 o4) .ret) .skip))) (R 3 o3)))))) (.seq (R 6 o1) .ret)))
theorem body : Tryz.f186.body = some code := by kernel_rfl
theorem main (P : PT) : ∀ env H, (En 25 k2 (B8 P)) env H → AW Tryz.prog T0 code env H (M (ret P)) :=
  (r_seq (b (q8 P)) (r_seq (r_seq (b (q7 P)) (r_block (rL (l2 P) (fun N2 => (r_seq (r_seq (b (q6 P N2)) (r_cond rfl r_skip (r_exit (fun _ _ h => h)))) (r_seq (r_block (r_seq (rD T0_ok mixed [(0, false), (1, false), (2, false), (3, false), (4, false), (5, false), (6, false), (7, false), (8, false), (9, false), (10, false), (11, false)] (by kernel_rfl) (q5 P N2)) (r_cond rfl (r_seq (b (q4 P N2)) r_ret) r_skip))) (b (q3 P N2)))))))) (r_seq (b (q1 P)) r_ret)))
theorem ac (P : PT) (x0 x1 : Value) (H : AHeap) (h : B8 P x0 x1 H) : AC Tryz.prog T0 186 [x0, x1] H P :=
  r_fn T0_ok (c := code) (n := 25) Tryz.func186 body (by kernel_rfl) (main P) (En_mk (x0, x1, ()) (by kernel_rfl) ⟨by kernel_rfl, by kernel_rfl, trivial⟩ h)

end F186
namespace F187
abbrev E := En 8
abbrev Q := QB Tryz.prog T0 8
def O (k : Nat) := ob Tryz.f187 (pth k)
def ret (P : PT) : EP := retE T0 8 Tryz.f187 P
abbrev k0 : Sk := [(2,.x),(3,.x)]
def o1 := O 6
def B1 (P : PT) : Y k0 := fun x2 x3 H =>
  AC Tryz.prog T0 170 [(Value.slice (some ⟨x2, 0, none⟩) 2 (2 + 1)), (Value.slice (some ⟨x3, 0, none⟩) 2 (2 + 1))] H (fun v1 H2 => asI .i64 v1 (fun v3 => P (Value.int .i64 v3) H2))
theorem q1 (P : PT) : QD Tryz.prog T0 8 o1 [(0, false), (1, false), (2, false), (3, false)] (ret P) k0 (B1 P) := fun _ _ _ _  => by kernel_rfl
abbrev k1 : Sk := [(0,.g [.i,.i]),(1,.g [.i,.i])]
def o2 := O 2
def B2 (P : PT) : Y k1 := fun x0a x0b x1a x1b H =>
  newK H [(Value.int .i64 x0a), (Value.int .i64 x0b)] 78 (fun b1 H2 => newK H2 [(Value.int .i64 x1a), (Value.int .i64 x1b)] 78 (fun b3 H4 => B1 P b1 b3 H4))
theorem q2 P : Q o2 (E k0 (B1 P)) k1 (B2 P) := fun _ _ _ _ _ _ => by kernel_rfl
def code : Code := (.seq (R 0 o2) (.seq (.region 1 ⟨o1⟩ true) .ret))
theorem body : Tryz.f187.body = some code := by kernel_rfl
theorem main (P : PT) : ∀ env H, (En 8 k1 (B2 P)) env H → AW Tryz.prog T0 code env H (M (ret P)) :=
  (r_seq (b (q2 P)) (r_seq (rD T0_ok mixed [(0, false), (1, false), (2, false), (3, false)] (by kernel_rfl) (q1 P)) r_ret))
theorem ac (P : PT) (x0a x0b x1a x1b : Int) (H : AHeap) (h : B2 P x0a x0b x1a x1b H) : AC Tryz.prog T0 187 [(Value.agg ⟨[(Value.int .i64 x0a), (Value.int .i64 x0b)]⟩), (Value.agg ⟨[(Value.int .i64 x1a), (Value.int .i64 x1b)]⟩)] H P :=
  r_fn T0_ok (c := code) (n := 8) Tryz.func187 body (by kernel_rfl) (main P) (En_mk (x0a, x0b, x1a, x1b, ()) (by kernel_rfl) ⟨by kernel_rfl, by kernel_rfl, trivial⟩ h)

end F187
namespace F188
abbrev E := En 33
abbrev Q := QB Tryz.prog T0 33
def O (k : Nat) := ob Tryz.f188 (pth k)
def ret (P : PT) : EP := retE T0 33 Tryz.f188 P
abbrev k0 : Sk := [(5,.v)]
def o1 := O 30
def B1 (P : PT) : Y k0 := fun x5 H =>
  AC Tryz.prog T0 218 [x5, (Value.func (.func 219) ⟨[]⟩ ⟨[]⟩)] H (fun v1 H2 => asB v1 (fun v3 => P (Value.bool v3) H2))
theorem q1 P : Q o1 (ret P) k0 (B1 P) := fun _ _ _ => by kernel_rfl
abbrev k1 : Sk := [(5,.v),(10,.v),(11,J),(12,J)]
def o3 := O 935
def B3 (P : PT) (N2 : Y k1) : Y k1 := fun x5 x10 x11 x12 H =>
  N2 x5 x10 x11 (IntKind.i64.wrap (x12 + 1)) H
theorem q3 P N2 : Q o3 (E k1 N2) k1 (B3 P N2) := fun _ _ _ _ _ _ => by kernel_rfl
abbrev k2 : Sk := [(5,.v),(7,.x),(10,.v),(11,J),(12,J)]
def o4 := O 7475
def B4 (P : PT) (N2 : Y k1) : Y k2 := fun x5 x7 x10 x11 x12 H =>
  ldI .i64 H x7 1 (fun v1 => idxK x5 v1 1 (fun b2 o3 => ldI .i64 H b2 o3 (fun v4 => idxK x5 v1 1 (fun b5 o6 => stK H b5 o6 [(Value.int .i64 (IntKind.i64.wrap (v4 + 1)))] (fun H7 => B3 P N2 x5 x10 x11 x12 H7)))))
theorem q4 P N2 : Q o4 (E k1 (B3 P N2)) k2 (B4 P N2) := fun _ _ _ _ _ _ _ => by kernel_rfl
def o5 := O 7474
def B5 (P : PT) (N2 : Y k1) : Y k2 := fun x5 x7 x10 x11 x12 H =>
  ldI .i64 H x7 0 (fun v1 => idxK x5 v1 1 (fun b2 o3 => ldI .i64 H b2 o3 (fun v4 => idxK x5 v1 1 (fun b5 o6 => stK H b5 o6 [(Value.int .i64 (IntKind.i64.wrap (v4 + 1)))] (fun H7 => B4 P N2 x5 x7 x10 x11 x12 H7)))))
theorem q5 P N2 : Q o5 (E k2 (B4 P N2)) k2 (B5 P N2) := fun _ _ _ _ _ _ _ => by kernel_rfl
def o6 := O 3736
def B6 (P : PT) (N2 : Y k1) : Y k1 := fun x5 x10 x11 x12 H =>
  idxK x10 x12 2 (fun b1 o2 => ldI .i64 H b1 o2 (fun v3 => ldI .i64 H b1 (o2 + 1) (fun v4 => newK H [(Value.int .i64 0), (Value.int .i64 0)] 78 (fun b5 H6 => stK H6 b5 0 [(Value.int .i64 v3), (Value.int .i64 v4)] (fun H7 => B5 P N2 x5 b5 x10 x11 x12 H7)))))
theorem q6 P N2 : Q o6 (E k2 (B5 P N2)) k1 (B6 P N2) := fun _ _ _ _ _ _ => by kernel_rfl
def o7 := O 232
def B7 (P : PT) (N2 : Y k1) : Y k1 := fun x5 x10 x11 x12 H =>
  pif (decide ((x12 : Int) < x11)) (B6 P N2 x5 x10 x11 x12 H) (B1 P x5 H)
theorem q7 P N2 : Q o7 (cnd 13 (E k1 (B6 P N2)) (E k0 (B1 P))) k1 (B7 P N2) := fun _ _ _ _ _ _ => by kernel_rfl
def L2 (P : PT) : Y k1 := fun x5 x10 x11 x12 H =>
  ∃ (I : Y k1) (μ : NTy k1 (AHeap → Nat)), I x5 x10 x11 x12 H ∧ ∀ y5 y10 y11 y12 G, I y5 y10 y11 y12 G → B7 P (fun z5 z10 z11 z12 G' => I z5 z10 z11 z12 G' ∧ μ z5 z10 z11 z12 G' < μ y5 y10 y11 y12 G) y5 y10 y11 y12 G
theorem l2 P : LQ k1 (L2 P) (B7 P) := fun ⟨_,_,_,_,_⟩ _ ⟨I, μ, h0, hI⟩ => ⟨apT _ I, apT _ μ, h0, fun ⟨_,_,_,_,_⟩ _ h => hI _ _ _ _ _  h⟩
abbrev k3 : Sk := [(1,.v),(5,.v)]
def o8 := O 28
def B8 (P : PT) : Y k3 := fun x1 x5 H =>
  lenK x1 (fun n1 => L2 P x5 x1 (n1 : Int) 0 H)
theorem q8 P : Q o8 (E k1 (L2 P)) k3 (B8 P) := fun _ _ _ _ => by kernel_rfl
abbrev k4 : Sk := [(0,J),(1,.v)]
def o9 := O 6
def B9 (P : PT) : Y k4 := fun x0 x1 H =>
  mkR H 8 3 [(Value.int .i64 0)] x0 x0 (fun v2 H1 => B8 P x1 v2 H1)
theorem q9 P : Q o9 (E k3 (B8 P)) k4 (B9 P) := fun _ _ _ _ => by kernel_rfl
def o10 := O 2
def B10 (P : PT) : Y k4 := fun x0 x1 H =>
  B9 P x0 x1 H
theorem q10 P : Q o10 (E k4 (B9 P)) k4 (B10 P) := fun _ _ _ _ => by kernel_rfl
def code : Code := (.seq (R 0 o10) (.seq (R 1 o9) (.seq (.seq (R 2 o8) (.block 0 (.loop (.seq (R 3 o7) (.seq (.cond (.tmp 13) .skip (.exit 0)) (.seq (.block 1 (.seq (R 4 o6) (.seq (R 5 o5) (R 6 o4)))) (R 7 o3))))))) (.seq (R 8 o1) .ret))))
theorem body : Tryz.f188.body = some code := by kernel_rfl
theorem main (P : PT) : ∀ env H, (En 33 k4 (B10 P)) env H → AW Tryz.prog T0 code env H (M (ret P)) :=
  (r_seq (b (q10 P)) (r_seq (b (q9 P)) (r_seq (r_seq (b (q8 P)) (r_block (rL (l2 P) (fun N2 => (r_seq (b (q7 P N2)) (r_seq (r_cond rfl r_skip (r_exit (fun _ _ h => h))) (r_seq (r_block (r_seq (b (q6 P N2)) (r_seq (b (q5 P N2)) (b (q4 P N2))))) (b (q3 P N2))))))))) (r_seq (b (q1 P)) r_ret))))
theorem ac (P : PT) (x0 : Int) (x1 : Value) (H : AHeap) (h : B10 P x0 x1 H) : AC Tryz.prog T0 188 [(Value.int .i64 x0), x1] H P :=
  r_fn T0_ok (c := code) (n := 33) Tryz.func188 body (by kernel_rfl) (main P) (En_mk (x0, x1, ()) (by kernel_rfl) ⟨by kernel_rfl, by kernel_rfl, trivial⟩ h)

end F188
namespace F189
abbrev E := En 9
abbrev Q := QB Tryz.prog T0 9
def O (k : Nat) := ob Tryz.f189 (pth k)
def ret (P : PT) : EP := retE T0 9 Tryz.f189 P
abbrev k0 : Sk := [(0,.v),(1,.v)]
def o1 := O 6
def B1 (P : PT) : Y k0 := fun x0 x1 H =>
  AC Tryz.prog T0 220 [x0, x1] H (fun v1 H2 => asI .i64 v1 (fun v3 => P (Value.bool (decide ((v3 : Int) ≥ 0))) H2))
theorem q1 P : Q o1 (ret P) k0 (B1 P) := fun _ _ _ _ => by kernel_rfl
def o2 := O 2
def B2 (P : PT) : Y k0 := fun x0 x1 H =>
  B1 P x0 x1 H
theorem q2 P : Q o2 (E k0 (B1 P)) k0 (B2 P) := fun _ _ _ _ => by kernel_rfl
def code : Code := (.seq (R 0 o2) (.seq (R 1 o1) .ret))
theorem body : Tryz.f189.body = some code := by kernel_rfl
theorem main (P : PT) : ∀ env H, (En 9 k0 (B2 P)) env H → AW Tryz.prog T0 code env H (M (ret P)) :=
  (r_seq (b (q2 P)) (r_seq (b (q1 P)) r_ret))
theorem ac (P : PT) (x0 x1 : Value) (H : AHeap) (h : B2 P x0 x1 H) : AC Tryz.prog T0 189 [x0, x1] H P :=
  r_fn T0_ok (c := code) (n := 9) Tryz.func189 body (by kernel_rfl) (main P) (En_mk (x0, x1, ()) (by kernel_rfl) ⟨by kernel_rfl, by kernel_rfl, trivial⟩ h)

end F189
namespace F190
abbrev E := En 8
abbrev Q := QB Tryz.prog T0 8
def O (k : Nat) := ob Tryz.f190 (pth k)
def ret (P : PT) : EP := retE T0 8 Tryz.f190 P
abbrev k0 : Sk := [(0,J),(1,.v)]
def o1 := O 6
def B1 (P : PT) : Y k0 := fun x0 x1 H =>
  asP x1 (fun b1 o2 => ld1 H b1 o2 (fun v3 => callV Tryz.prog T0 v3 [(Value.int .i64 x0)] H (fun v4 H5 => asB v4 (fun v6 => P (Value.bool (!v6)) H5))))
theorem q1 P : Q o1 (ret P) k0 (B1 P) := fun _ _ _ _ => by kernel_rfl
def o2 := O 2
def B2 (P : PT) : Y k0 := fun x0 x1 H =>
  B1 P x0 x1 H
theorem q2 P : Q o2 (E k0 (B1 P)) k0 (B2 P) := fun _ _ _ _ => by kernel_rfl
def code : Code := (.seq (R 0 o2) (.seq (R 1 o1) .ret))
theorem body : Tryz.f190.body = some code := by kernel_rfl
theorem main (P : PT) : ∀ env H, (En 8 k0 (B2 P)) env H → AW Tryz.prog T0 code env H (M (ret P)) :=
  (r_seq (b (q2 P)) (r_seq (b (q1 P)) r_ret))
theorem ac (P : PT) (x0 : Int) (x1 : Value) (H : AHeap) (h : B2 P x0 x1 H) : AC Tryz.prog T0 190 [(Value.int .i64 x0), x1] H P :=
  r_fn T0_ok (c := code) (n := 8) Tryz.func190 body (by kernel_rfl) (main P) (En_mk (x0, x1, ()) (by kernel_rfl) ⟨by kernel_rfl, by kernel_rfl, trivial⟩ h)

end F190
namespace F192
abbrev E := En 48
abbrev Q := QB Tryz.prog T0 48
def O (k : Nat) := ob Tryz.f192 (pth k)
def ret (P : PT) : EP := retE T0 48 Tryz.f192 P
abbrev k0 : Sk := [(7,.v)]
def o1 := O 510
def B1 (P : PT) : Y k0 := fun x7 H =>
  P x7 H
theorem q1 P : Q o1 (ret P) k0 (B1 P) := fun _ _ _ => by kernel_rfl
abbrev k1 : Sk := [(7,.v),(8,J)]
def o3 := O 4066
def B3 (P : PT) (N2 : Y k1) : Y k1 := fun x7 x8 H =>
  sliceK H 2 x7 (some (Value.int .i64 x8)) none 1 (fun v1 => sliceK H 2 x7 none (some (Value.int .i64 x8)) 1 (fun v2 => cpK T0 2 H v1 v2 (fun n3 H4 => N2 x7 (IntKind.i64.wrap (x8 + (n3 : Int))) H4)))
theorem q3 (P : PT) (N2 : Y k1) : QD Tryz.prog T0 48 o3 [(0, false), (1, false), (2, false), (3, false), (4, false), (5, false), (6, false), (7, false), (8, false), (9, false)] (En 48 k1 N2) k1 (B3 P N2) := fun _ _ _ _  => by kernel_rfl
def o4 := O 4064
def B4 (P : PT) (N2 : Y k1) : Y k1 := fun x7 x8 H =>
  lenK x7 (fun n1 => pif (decide ((x8 : Int) < (n1 : Int))) (B3 P N2 x7 x8 H) (B1 P x7 H))
theorem q4 P N2 : Q o4 (cnd 37 (E k1 (B3 P N2)) (E k0 (B1 P))) k1 (B4 P N2) := fun _ _ _ _ => by kernel_rfl
def L2 (P : PT) : Y k1 := fun x7 x8 H =>
  ∃ (I : Y k1) (μ : NTy k1 (AHeap → Nat)), I x7 x8 H ∧ ∀ y7 y8 G, I y7 y8 G → B4 P (fun z7 z8 G' => I z7 z8 G' ∧ μ z7 z8 G' < μ y7 y8 G) y7 y8 G
theorem l2 P : LQ k1 (L2 P) (B4 P) := fun ⟨_,_,_⟩ _ ⟨I, μ, h0, hI⟩ => ⟨apT _ I, apT _ μ, h0, fun ⟨_,_,_⟩ _ h => hI _ _ _  h⟩
abbrev k2 : Sk := [(0,.v),(7,.v)]
def o5 := O 126
def B5 (P : PT) : Y k2 := fun x0 x7 H =>
  cpK T0 2 H x7 x0 (fun n1 H2 => L2 P x7 (n1 : Int) H2)
theorem q5 P : Q o5 (E k1 (L2 P)) k2 (B5 P) := fun _ _ _ _ => by kernel_rfl
abbrev k3 : Sk := [(0,.v),(6,.i .u64)]
def o6 := O 62
def B6 (P : PT) : Y k3 := fun x0 x6 H =>
  mkR H 8 2 [(Value.int .i64 0)] (IntKind.i64.wrap x6) (IntKind.i64.wrap x6) (fun v2 H1 => B5 P x0 v2 H1)
theorem q6 P : Q o6 (E k2 (B5 P)) k3 (B6 P) := fun _ _ _ _ => by kernel_rfl
abbrev k4 : Sk := [(0,.v),(5,.i .u64),(6,.i .u64)]
def o7 := O 60
def B7 (P : PT) : Y k4 := fun x0 x5 x6 H =>
  pif (decide ((x5 : Int) > 0)) (False) (pif (decide ((x6 : Int) > 9223372036854775807)) (False) (B6 P x0 x6 H))
theorem q7 P : Q o7 (cnd 26 (fun _ _ => False) (E k3 (B6 P))) k4 (B7 P) := fun _ _ _ _ _ => by kernel_rfl
abbrev k5 : Sk := [(0,.v),(1,J)]
def o8 := O 14
def B8 (P : PT) : Y k5 := fun x0 x1 H =>
  lenK x0 (fun n1 => AC Tryz.prog T0 221 [(Value.int .u64 (IntKind.u64.wrap (n1 : Int))), (Value.int .u64 (IntKind.u64.wrap x1))] H (fun v2 H3 => tup2 v2 (fun v4 v5 => asI .u64 v4 (fun v6 => asI .u64 v5 (fun v7 => B7 P x0 v6 v7 H3)))))
theorem q8 P : Q o8 (E k4 (B7 P)) k5 (B8 P) := fun _ _ _ _ => by kernel_rfl
def o9 := O 12
def B9 (P : PT) : Y k5 := fun x0 x1 H =>
  pif (decide ((x1 : Int) < 0)) (False) (B8 P x0 x1 H)
theorem q9 P : Q o9 (cnd 10 (fun _ _ => False) (E k5 (B8 P))) k5 (B9 P) := fun _ _ _ _ => by kernel_rfl
def o10 := O 2
def B10 (P : PT) : Y k5 := fun x0 x1 H =>
  B9 P x0 x1 H
theorem q10 P : Q o10 (E k5 (B9 P)) k5 (B10 P) := fun _ _ _ _ => by kernel_rfl
def code : Code := (.seq (R 0 o10) (.seq (.seq (R 1 o9) (.cond (.tmp 10) (codeAt (bodyOf Tryz.f192) [.r,.l,.r,.l]) .skip)) (.seq (R 3 o8) (.seq (.seq (R 4 o7) (.cond (.tmp 26) (codeAt (bodyOf Tryz.f192) [.r,.r,.r,.l,.r,.l]) .skip)) (.seq (R 6 o6) (.seq (R 7 o5) (.seq (.block 0 (.loop (.seq (.seq (R 8 o4) (.cond (.tmp 37) .skip (.exit 0))) (.block 1 (.region 9 ⟨o3⟩ true))))) (.seq (R 10 o1) .ret))))))))
theorem body : Tryz.f192.body = some code := by kernel_rfl
theorem main (P : PT) : ∀ env H, (En 48 k5 (B10 P)) env H → AW Tryz.prog T0 code env H (M (ret P)) :=
  (r_seq (b (q10 P)) (r_seq (r_seq (b (q9 P)) (r_cond rfl r_none r_skip)) (r_seq (b (q8 P)) (r_seq (r_seq (b (q7 P)) (r_cond rfl r_none r_skip)) (r_seq (b (q6 P)) (r_seq (b (q5 P)) (r_seq (r_block (rL (l2 P) (fun N2 => (r_seq (r_seq (b (q4 P N2)) (r_cond rfl r_skip (r_exit (fun _ _ h => h)))) (r_block (rD T0_ok mixed [(0, false), (1, false), (2, false), (3, false), (4, false), (5, false), (6, false), (7, false), (8, false), (9, false)] (by kernel_rfl) (q3 P N2))))))) (r_seq (b (q1 P)) r_ret))))))))
theorem ac (P : PT) (x0 : Value) (x1 : Int) (H : AHeap) (h : B10 P x0 x1 H) : AC Tryz.prog T0 192 [x0, (Value.int .i64 x1)] H P :=
  r_fn T0_ok (c := code) (n := 48) Tryz.func192 body (by kernel_rfl) (main P) (En_mk (x0, x1, ()) (by kernel_rfl) ⟨by kernel_rfl, by kernel_rfl, trivial⟩ h)

end F192
namespace F193
abbrev E := En 12
abbrev Q := QB Tryz.prog T0 12
def O (k : Nat) := ob Tryz.f193 (pth k)
def ret (P : PT) : EP := retE T0 12 Tryz.f193 P
abbrev k0 : Sk := [(1,J),(2,.x)]
def o1 := O 6
def B1 (P : PT) : Y k0 := fun x1 x2 H =>
  ldI .i64 H x2 0 (fun v1 => ldI .i64 H x2 1 (fun v2 => P (Value.int .i64 (IntKind.i64.wrap ((IntKind.i64.wrap (v1 + v2)) - x1))) H))
theorem q1 P : Q o1 (ret P) k0 (B1 P) := fun _ _ _ _ => by kernel_rfl
abbrev k1 : Sk := [(0,.g [.i,.i]),(1,J)]
def o2 := O 2
def B2 (P : PT) : Y k1 := fun x0a x0b x1 H =>
  newK H [(Value.int .i64 x0a), (Value.int .i64 x0b)] 78 (fun b1 H2 => B1 P x1 b1 H2)
theorem q2 P : Q o2 (E k0 (B1 P)) k1 (B2 P) := fun _ _ _ _ _ => by kernel_rfl
def code : Code := (.seq (R 0 o2) (.seq (R 1 o1) .ret))
theorem body : Tryz.f193.body = some code := by kernel_rfl
theorem main (P : PT) : ∀ env H, (En 12 k1 (B2 P)) env H → AW Tryz.prog T0 code env H (M (ret P)) :=
  (r_seq (b (q2 P)) (r_seq (b (q1 P)) r_ret))
theorem ac (P : PT) (x0a x0b x1 : Int) (H : AHeap) (h : B2 P x0a x0b x1 H) : AC Tryz.prog T0 193 [(Value.agg ⟨[(Value.int .i64 x0a), (Value.int .i64 x0b)]⟩), (Value.int .i64 x1)] H P :=
  r_fn T0_ok (c := code) (n := 12) Tryz.func193 body (by kernel_rfl) (main P) (En_mk (x0a, x0b, x1, ()) (by kernel_rfl) ⟨by kernel_rfl, by kernel_rfl, trivial⟩ h)

end F193
namespace F195
abbrev E := En 15
abbrev Q := QB Tryz.prog T0 15
def O (k : Nat) := ob Tryz.f195 (pth k)
def ret (P : PT) : EP := retE T0 15 Tryz.f195 P
abbrev k0 : Sk := [(1,J),(2,.x)]
def o1 := O 6
def B1 (P : PT) : Y k0 := fun x1 x2 H =>
  ldI .i64 H x2 0 (fun v1 => pif ((v1 : Int) == x1) (P (Value.bool true) H) (ldI .i64 H x2 1 (fun v2 => P (Value.bool ((v2 : Int) == x1)) H)))
theorem q1 P : Q o1 (ret P) k0 (B1 P) := fun _ _ _ _ => by kernel_rfl
abbrev k1 : Sk := [(0,.g [.i,.i]),(1,J)]
def o2 := O 2
def B2 (P : PT) : Y k1 := fun x0a x0b x1 H =>
  newK H [(Value.int .i64 x0a), (Value.int .i64 x0b)] 78 (fun b1 H2 => B1 P x1 b1 H2)
theorem q2 P : Q o2 (E k0 (B1 P)) k1 (B2 P) := fun _ _ _ _ _ => by kernel_rfl
def code : Code := (.seq (R 0 o2) (.seq (R 1 o1) .ret))
theorem body : Tryz.f195.body = some code := by kernel_rfl
theorem main (P : PT) : ∀ env H, (En 15 k1 (B2 P)) env H → AW Tryz.prog T0 code env H (M (ret P)) :=
  (r_seq (b (q2 P)) (r_seq (b (q1 P)) r_ret))
theorem ac (P : PT) (x0a x0b x1 : Int) (H : AHeap) (h : B2 P x0a x0b x1 H) : AC Tryz.prog T0 195 [(Value.agg ⟨[(Value.int .i64 x0a), (Value.int .i64 x0b)]⟩), (Value.int .i64 x1)] H P :=
  r_fn T0_ok (c := code) (n := 15) Tryz.func195 body (by kernel_rfl) (main P) (En_mk (x0a, x0b, x1, ()) (by kernel_rfl) ⟨by kernel_rfl, by kernel_rfl, trivial⟩ h)

end F195
namespace F209
abbrev E := En 6
abbrev Q := QB Tryz.prog T0 6
def O (k : Nat) := ob Tryz.f209 (pth k)
def ret (P : PT) : EP := retE T0 6 Tryz.f209 P
abbrev k0 : Sk := [(0,J)]
def o1 := O 6
def B1 (P : PT) : Y k0 := fun x0 H =>
  P (Value.bool ((x0 : Int) != x0)) H
theorem q1 P : Q o1 (ret P) k0 (B1 P) := fun _ _ _ => by kernel_rfl
def o2 := O 2
def B2 (P : PT) : Y k0 := fun x0 H =>
  B1 P x0 H
theorem q2 P : Q o2 (E k0 (B1 P)) k0 (B2 P) := fun _ _ _ => by kernel_rfl
def code : Code := (.seq (R 0 o2) (.seq (R 1 o1) .ret))
theorem body : Tryz.f209.body = some code := by kernel_rfl
theorem main (P : PT) : ∀ env H, (En 6 k0 (B2 P)) env H → AW Tryz.prog T0 code env H (M (ret P)) :=
  (r_seq (b (q2 P)) (r_seq (b (q1 P)) r_ret))
theorem ac (P : PT) (x0 : Int) (H : AHeap) (h : B2 P x0 H) : AC Tryz.prog T0 209 [(Value.int .i64 x0)] H P :=
  r_fn T0_ok (c := code) (n := 6) Tryz.func209 body (by kernel_rfl) (main P) (En_mk (x0, ()) (by kernel_rfl) ⟨by kernel_rfl, trivial⟩ h)

end F209
namespace F210
abbrev E := En 46
abbrev Q := QB Tryz.prog T0 46
def O (k : Nat) := ob Tryz.f210 (pth k)
def ret (P : PT) : EP := retE T0 46 Tryz.f210 P
abbrev k0 : Sk := []
def o1 := O 14
def B1 (P : PT) : Y k0 := fun H =>
  P (Value.bool true) H
theorem q1 P : Q o1 (ret P) k0 (B1 P) := fun _ _ => by kernel_rfl
abbrev k1 : Sk := [(1,.v),(2,J),(3,J),(4,.x),(9,J)]
def o3 := O 211
def B3 (P : PT) (N2 : Y k1) : Y k1 := fun x1 x2 x3 x4 x9 H =>
  N2 x1 x2 x3 x4 (IntKind.i64.wrap (x9 + 1)) H
theorem q3 P N2 : Q o3 (E k1 N2) k1 (B3 P N2) := fun _ _ _ _ _ _ _ => by kernel_rfl
abbrev k2 : Sk := [(1,.v),(2,J),(3,J),(4,.x),(9,J),(10,.v),(11,J)]
def o5 := O 26931
def B5 (P : PT) (N2 : Y k1) (N4 : Y k2) : Y k2 := fun x1 x2 x3 x4 x9 x10 x11 H =>
  N4 x1 x2 x3 x4 x9 x10 (IntKind.i64.wrap (x11 + 1)) H
theorem q5 P N2 N4 : Q o5 (E k2 N4) k2 (B5 P N2 N4) := fun _ _ _ _ _ _ _ _ _ => by kernel_rfl
def o6 := O 430884
def B6 (P : PT) (N2 : Y k1) (N4 : Y k2) : Y k0 := fun H =>
  P (Value.bool false) H
theorem q6 P N2 N4 : Q o6 (ret P) k0 (B6 P N2 N4) := fun _ _ => by kernel_rfl
def o7 := O 107720
def B7 (P : PT) (N2 : Y k1) (N4 : Y k2) : Y k2 := fun x1 x2 x3 x4 x9 x10 x11 H =>
  idxK x10 x11 1 (fun b1 o2 => ldI .i64 H b1 o2 (fun v3 => pif (decide ((v3 : Int) < x2)) (idxK x10 x11 1 (fun b4 o5 => ldI .i64 H b4 o5 (fun v6 => idxK x1 v6 1 (fun b7 o8 => ldI .i64 H b7 o8 (fun v9 => pif ((v9 : Int) == x3) (B6 P N2 N4 H) (B5 P N2 N4 x1 x2 x3 x4 x9 x10 x11 H)))))) (B5 P N2 N4 x1 x2 x3 x4 x9 x10 x11 H)))
theorem q7 P N2 N4 : Q o7 (cnd 45 (E k0 (B6 P N2 N4)) (E k2 (B5 P N2 N4))) k2 (B7 P N2 N4) := fun _ _ _ _ _ _ _ _ _ => by kernel_rfl
def o8 := O 26928
def B8 (P : PT) (N2 : Y k1) (N4 : Y k2) : Y k2 := fun x1 x2 x3 x4 x9 x10 x11 H =>
  pif (decide ((x11 : Int) < 3)) (B7 P N2 N4 x1 x2 x3 x4 x9 x10 x11 H) (B3 P N2 x1 x2 x3 x4 x9 H)
theorem q8 P N2 N4 : Q o8 (cnd 26 (E k2 (B7 P N2 N4)) (E k1 (B3 P N2))) k2 (B8 P N2 N4) := fun _ _ _ _ _ _ _ _ _ => by kernel_rfl
def L4 (P : PT) (N2 : Y k1) : Y k2 := fun x1 x2 x3 x4 x9 x10 x11 H =>
  ∃ (I : Y k2) (μ : NTy k2 (AHeap → Nat)), I x1 x2 x3 x4 x9 x10 x11 H ∧ ∀ y1 y2 y3 y4 y9 y10 y11 G, I y1 y2 y3 y4 y9 y10 y11 G → B8 P N2 (fun z1 z2 z3 z4 z9 z10 z11 G' => I z1 z2 z3 z4 z9 z10 z11 G' ∧ μ z1 z2 z3 z4 z9 z10 z11 G' < μ y1 y2 y3 y4 y9 y10 y11 G) y1 y2 y3 y4 y9 y10 y11 G
theorem l4 P N2 : LQ k2 (L4 P N2) (B8 P N2) := fun ⟨_,_,_,_,_,_,_,_⟩ _ ⟨I, μ, h0, hI⟩ => ⟨apT _ I, apT _ μ, h0, fun ⟨_,_,_,_,_,_,_,_⟩ _ h => hI _ _ _ _ _ _ _ _  h⟩
abbrev k3 : Sk := [(1,.v),(2,J),(3,J),(4,.x),(9,J),(10,.v)]
def o9 := O 1682
def B9 (P : PT) (N2 : Y k1) : Y k3 := fun x1 x2 x3 x4 x9 x10 H =>
  L4 P N2 x1 x2 x3 x4 x9 x10 0 H
theorem q9 P N2 : Q o9 (E k2 (L4 P N2)) k3 (B9 P N2) := fun _ _ _ _ _ _ _ _ => by kernel_rfl
def o10 := O 840
def B10 (P : PT) (N2 : Y k1) : Y k1 := fun x1 x2 x3 x4 x9 H =>
  ldI .i64 H x4 0 (fun v1 => ld1 H x4 1 (fun v2 => ld1 H x4 1 (fun v3 => idxK v3 x2 2 (fun b4 o5 => bndK x9 2 (ldI .i64 H b4 (o5 + Int.toNat x9 * 1) (fun v6 => AC Tryz.prog T0 175 [(Value.agg ⟨[(Value.int .i64 v1), v2]⟩), (Value.int .i64 v6)] H (fun v7 H8 => B9 P N2 x1 x2 x3 x4 x9 v7 H8)))))))
theorem q10 (P : PT) (N2 : Y k1) : QD Tryz.prog T0 46 o10 [(0, false), (1, false), (2, false), (3, false), (4, false), (5, false), (6, false), (7, false), (8, false), (9, false)] (En 46 k3 (B9 P N2)) k1 (B10 P N2) := fun _ _ _ _ _ _ _  => by kernel_rfl
def o11 := O 208
def B11 (P : PT) (N2 : Y k1) : Y k1 := fun x1 x2 x3 x4 x9 H =>
  pif (decide ((x9 : Int) < 2)) (B10 P N2 x1 x2 x3 x4 x9 H) (B1 P H)
theorem q11 P N2 : Q o11 (cnd 13 (E k1 (B10 P N2)) (E k0 (B1 P))) k1 (B11 P N2) := fun _ _ _ _ _ _ _ => by kernel_rfl
def L2 (P : PT) : Y k1 := fun x1 x2 x3 x4 x9 H =>
  ∃ (I : Y k1) (μ : NTy k1 (AHeap → Nat)), I x1 x2 x3 x4 x9 H ∧ ∀ y1 y2 y3 y4 y9 G, I y1 y2 y3 y4 y9 G → B11 P (fun z1 z2 z3 z4 z9 G' => I z1 z2 z3 z4 z9 G' ∧ μ z1 z2 z3 z4 z9 G' < μ y1 y2 y3 y4 y9 G) y1 y2 y3 y4 y9 G
theorem l2 P : LQ k1 (L2 P) (B11 P) := fun ⟨_,_,_,_,_,_⟩ _ ⟨I, μ, h0, hI⟩ => ⟨apT _ I, apT _ μ, h0, fun ⟨_,_,_,_,_,_⟩ _ h => hI _ _ _ _ _ _  h⟩
abbrev k4 : Sk := [(1,.v),(2,J),(3,J),(4,.x)]
def o12 := O 12
def B12 (P : PT) : Y k4 := fun x1 x2 x3 x4 H =>
  L2 P x1 x2 x3 x4 0 H
theorem q12 P : Q o12 (E k1 (L2 P)) k4 (B12 P) := fun _ _ _ _ _ _ => by kernel_rfl
abbrev k5 : Sk := [(0,.g [.i,.v]),(1,.v),(2,J),(3,J)]
def o13 := O 2
def B13 (P : PT) : Y k5 := fun x0a x0b x1 x2 x3 H =>
  newK H [(Value.int .i64 x0a), x0b] 26 (fun b1 H2 => B12 P x1 x2 x3 b1 H2)
theorem q13 P : Q o13 (E k4 (B12 P)) k5 (B13 P) := fun _ _ _ _ _ _ _ => by kernel_rfl
def code : Code := (.seq (R 0 o13) (.seq (.seq (R 1 o12) (.block 0 (.loop (.seq (.seq (R 2 o11) (.cond (.tmp 13) .skip (.exit 0))) (.seq (.block 1 (.seq (.region 4 ⟨o10⟩ true) (.seq (R 5 o9) (.block 2 (.loop (.seq (.seq (R 6 o8) (.cond (.tmp 26) .skip (.exit 2))) (.seq (.block 3 (.seq (R 8 o7) (.cond (.tmp 45) (.seq (R 9 o6) .ret) .skip))) (R 7 o5)))))))) (R 3 o3)))))) (.seq (R 10 o1) .ret)))
theorem body : Tryz.f210.body = some code := by kernel_rfl
theorem main (P : PT) : ∀ env H, (En 46 k5 (B13 P)) env H → AW Tryz.prog T0 code env H (M (ret P)) :=
  (r_seq (b (q13 P)) (r_seq (r_seq (b (q12 P)) (r_block (rL (l2 P) (fun N2 => (r_seq (r_seq (b (q11 P N2)) (r_cond rfl r_skip (r_exit (fun _ _ h => h)))) (r_seq (r_block (r_seq (rD T0_ok mixed [(0, false), (1, false), (2, false), (3, false), (4, false), (5, false), (6, false), (7, false), (8, false), (9, false)] (by kernel_rfl) (q10 P N2)) (r_seq (b (q9 P N2)) (r_block (rL (l4 P N2) (fun N4 => (r_seq (r_seq (b (q8 P N2 N4)) (r_cond rfl r_skip (r_exit (fun _ _ h => h)))) (r_seq (r_block (r_seq (b (q7 P N2 N4)) (r_cond rfl (r_seq (b (q6 P N2 N4)) r_ret) r_skip))) (b (q5 P N2 N4)))))))))) (b (q3 P N2)))))))) (r_seq (b (q1 P)) r_ret)))
theorem ac (P : PT) (x0a : Int) (x0b x1 : Value) (x2 x3 : Int) (H : AHeap) (h : B13 P x0a x0b x1 x2 x3 H) : AC Tryz.prog T0 210 [(Value.agg ⟨[(Value.int .i64 x0a), x0b]⟩), x1, (Value.int .i64 x2), (Value.int .i64 x3)] H P :=
  r_fn T0_ok (c := code) (n := 46) Tryz.func210 body (by kernel_rfl) (main P) (En_mk (x0a, x0b, x1, x2, x3, ()) (by kernel_rfl) ⟨by kernel_rfl, by kernel_rfl, by kernel_rfl, by kernel_rfl, trivial⟩ h)

end F210
namespace F211
abbrev E := En 79
abbrev Q := QB Tryz.prog T0 79
def O (k : Nat) := ob Tryz.f211 (pth k)
def ret (P : PT) : EP := retE T0 79 Tryz.f211 P
abbrev k0 : Sk := [(2,.v)]
def o1 := O 254
def B1 (P : PT) : Y k0 := fun x2 H =>
  P x2 H
theorem q1 P : Q o1 (ret P) k0 (B1 P) := fun _ _ _ => by kernel_rfl
abbrev k1 : Sk := [(1,.v),(2,.v),(3,J),(4,.x),(9,J),(11,J),(13,J)]
def o3 := O 4051
def B3 (P : PT) (N2 : Y k1) : Y k1 := fun x1 x2 x3 x4 x9 x11 x13 H =>
  N2 x1 x2 x3 x4 x9 x11 (IntKind.i64.wrap (x13 + 1)) H
theorem q3 P N2 : Q o3 (E k1 N2) k1 (B3 P N2) := fun _ _ _ _ _ _ _ _ _ => by kernel_rfl
def o4 := O 16201
def B4 (P : PT) (N2 : Y k1) : Y k1 := fun x1 x2 x3 x4 x9 x11 x13 H =>
  ldI .i64 H x4 0 (fun v1 => ld1 H x4 1 (fun v2 => (AC Tryz.prog T0 138 [x1] H (fun v3 H4 => (ldI .i64 H4 x4 0 (fun v6 => ld1 H4 x4 1 (fun v7 => ((Value.agg ⟨[(Value.int .i64 v6), v7]⟩) = (Value.agg ⟨[(Value.int .i64 v1), v2]⟩)) ∧ (H4 = H4)))) ∧ (newK H4 [(Value.int .i64 x13)] 2 (fun b8 H9 => apK T0 2 H9 v3 (Value.slice (some ⟨b8, 0, none⟩) 1 (1 + 1)) (fun v10 H11 => (ldI .i64 H11 x4 0 (fun v12 => ld1 H11 x4 1 (fun v13 => ((Value.agg ⟨[(Value.int .i64 v12), v13]⟩) = (Value.agg ⟨[(Value.int .i64 v1), v2]⟩)) ∧ (H11 = H11)))) ∧ (AC Tryz.prog T0 211 [(Value.agg ⟨[(Value.int .i64 v1), v2]⟩), v10, x2, (Value.int .i64 x3)] H11 (fun v14 H15 => B3 P N2 x1 v14 x3 x4 x9 x11 x13 H15))))))) ∧ (newK H [(Value.int .i64 x13)] 2 (fun b17 H18 => AC Tryz.prog T0 138 [x1] H18 (fun v19 H20 => (ldI .i64 H20 x4 0 (fun v22 => ld1 H20 x4 1 (fun v23 => ((Value.agg ⟨[(Value.int .i64 v22), v23]⟩) = (Value.agg ⟨[(Value.int .i64 v1), v2]⟩)) ∧ (H20 = H20)))) ∧ (apK T0 2 H20 v19 (Value.slice (some ⟨b17, 0, none⟩) 1 (1 + 1)) (fun v24 H25 => (ldI .i64 H25 x4 0 (fun v26 => ld1 H25 x4 1 (fun v27 => ((Value.agg ⟨[(Value.int .i64 v26), v27]⟩) = (Value.agg ⟨[(Value.int .i64 v1), v2]⟩)) ∧ (H25 = H25)))) ∧ (AC Tryz.prog T0 211 [(Value.agg ⟨[(Value.int .i64 v1), v2]⟩), v24, x2, (Value.int .i64 x3)] H25 (fun v28 H29 => B3 P N2 x1 v28 x3 x4 x9 x11 x13 H29)))))))))
theorem q4 (P : PT) (N2 : Y k1) : QT Tryz.prog T0 79 o4 (.op 0 [] (.op 1 [] (.op 3 [] (.op 6 [] (.op 7 [] (.alt (.op 2 [0] (.op 4 [] (.op 5 [0] (.op 8 [] (.op 9 [] .done))))) (.op 4 [] (.op 2 [0] (.op 5 [0] (.op 8 [] (.op 9 [] .done))))))))))) (En 79 k1 (B3 P N2)) k1 (B4 P N2) := fun _ _ _ _ _ _ _ _ _  => by kernel_rfl
def o5 := O 32400
def B5 (P : PT) (N2 : Y k1) : Y k1 := fun x1 x2 x3 x4 x9 x11 x13 H =>
  pif (decide ((x11 : Int) ≥ 0)) (pif ((x13 : Int) != x11) ((B3 P N2 x1 x2 x3 x4 x9 x11 x13 H) ∧ (B3 P N2 x1 x2 x3 x4 x9 x11 x13 H)) (ldI .i64 H x4 0 (fun v1 => ld1 H x4 1 (fun v2 => (AC Tryz.prog T0 138 [x1] H (fun v3 H4 => (ldI .i64 H4 x4 0 (fun v6 => ld1 H4 x4 1 (fun v7 => ((Value.agg ⟨[(Value.int .i64 v6), v7]⟩) = (Value.agg ⟨[(Value.int .i64 v1), v2]⟩)) ∧ (H4 = H4)))) ∧ (newK H4 [(Value.int .i64 x13)] 2 (fun b8 H9 => apK T0 2 H9 v3 (Value.slice (some ⟨b8, 0, none⟩) 1 (1 + 1)) (fun v10 H11 => (ldI .i64 H11 x4 0 (fun v12 => ld1 H11 x4 1 (fun v13 => ((Value.agg ⟨[(Value.int .i64 v12), v13]⟩) = (Value.agg ⟨[(Value.int .i64 v1), v2]⟩)) ∧ (H11 = H11)))) ∧ (AC Tryz.prog T0 210 [(Value.agg ⟨[(Value.int .i64 v1), v2]⟩), v10, (Value.int .i64 x9), (Value.int .i64 x13)] H11 (fun v14 H15 => asB v14 (fun v16 => pif (!v16) (B3 P N2 x1 x2 x3 x4 x9 x11 x13 H15) (B4 P N2 x1 x2 x3 x4 x9 x11 x13 H15))))))))) ∧ (newK H [(Value.int .i64 x13)] 2 (fun b17 H18 => AC Tryz.prog T0 138 [x1] H18 (fun v19 H20 => (ldI .i64 H20 x4 0 (fun v22 => ld1 H20 x4 1 (fun v23 => ((Value.agg ⟨[(Value.int .i64 v22), v23]⟩) = (Value.agg ⟨[(Value.int .i64 v1), v2]⟩)) ∧ (H20 = H20)))) ∧ (apK T0 2 H20 v19 (Value.slice (some ⟨b17, 0, none⟩) 1 (1 + 1)) (fun v24 H25 => (ldI .i64 H25 x4 0 (fun v26 => ld1 H25 x4 1 (fun v27 => ((Value.agg ⟨[(Value.int .i64 v26), v27]⟩) = (Value.agg ⟨[(Value.int .i64 v1), v2]⟩)) ∧ (H25 = H25)))) ∧ (AC Tryz.prog T0 210 [(Value.agg ⟨[(Value.int .i64 v1), v2]⟩), v24, (Value.int .i64 x9), (Value.int .i64 x13)] H25 (fun v28 H29 => asB v28 (fun v30 => pif (!v30) (B3 P N2 x1 x2 x3 x4 x9 x11 x13 H29) (B4 P N2 x1 x2 x3 x4 x9 x11 x13 H29))))))))))))) (ldI .i64 H x4 0 (fun v31 => ld1 H x4 1 (fun v32 => (AC Tryz.prog T0 138 [x1] H (fun v33 H34 => (ldI .i64 H34 x4 0 (fun v36 => ld1 H34 x4 1 (fun v37 => ((Value.agg ⟨[(Value.int .i64 v36), v37]⟩) = (Value.agg ⟨[(Value.int .i64 v31), v32]⟩)) ∧ (H34 = H34)))) ∧ (newK H34 [(Value.int .i64 x13)] 2 (fun b38 H39 => apK T0 2 H39 v33 (Value.slice (some ⟨b38, 0, none⟩) 1 (1 + 1)) (fun v40 H41 => (ldI .i64 H41 x4 0 (fun v42 => ld1 H41 x4 1 (fun v43 => ((Value.agg ⟨[(Value.int .i64 v42), v43]⟩) = (Value.agg ⟨[(Value.int .i64 v31), v32]⟩)) ∧ (H41 = H41)))) ∧ (AC Tryz.prog T0 210 [(Value.agg ⟨[(Value.int .i64 v31), v32]⟩), v40, (Value.int .i64 x9), (Value.int .i64 x13)] H41 (fun v44 H45 => asB v44 (fun v46 => pif (!v46) (B3 P N2 x1 x2 x3 x4 x9 x11 x13 H45) (B4 P N2 x1 x2 x3 x4 x9 x11 x13 H45))))))))) ∧ (newK H [(Value.int .i64 x13)] 2 (fun b47 H48 => AC Tryz.prog T0 138 [x1] H48 (fun v49 H50 => (ldI .i64 H50 x4 0 (fun v52 => ld1 H50 x4 1 (fun v53 => ((Value.agg ⟨[(Value.int .i64 v52), v53]⟩) = (Value.agg ⟨[(Value.int .i64 v31), v32]⟩)) ∧ (H50 = H50)))) ∧ (apK T0 2 H50 v49 (Value.slice (some ⟨b47, 0, none⟩) 1 (1 + 1)) (fun v54 H55 => (ldI .i64 H55 x4 0 (fun v56 => ld1 H55 x4 1 (fun v57 => ((Value.agg ⟨[(Value.int .i64 v56), v57]⟩) = (Value.agg ⟨[(Value.int .i64 v31), v32]⟩)) ∧ (H55 = H55)))) ∧ (AC Tryz.prog T0 210 [(Value.agg ⟨[(Value.int .i64 v31), v32]⟩), v54, (Value.int .i64 x9), (Value.int .i64 x13)] H55 (fun v58 H59 => asB v58 (fun v60 => pif (!v60) (B3 P N2 x1 x2 x3 x4 x9 x11 x13 H59) (B4 P N2 x1 x2 x3 x4 x9 x11 x13 H59))))))))))))
theorem q5 (P : PT) (N2 : Y k1) : QT Tryz.prog T0 79 o5 (.op 0 [] (.op 1 [] (.op 2 [] (.op 3 [] (.op 4 [] (.op 5 [] (.op 6 [] (.op 7 [] (.op 8 [] (.op 9 [] (.op 11 [] (.op 14 [] (.op 15 [] (.alt (.op 10 [8] (.op 12 [] (.op 13 [8] (.op 16 [] (.op 17 [] (.op 18 [] .done)))))) (.op 12 [] (.op 10 [8] (.op 13 [8] (.op 16 [] (.op 17 [] (.op 18 [] .done)))))))))))))))))))) (cnd 68 (En 79 k1 (B3 P N2)) (En 79 k1 (B4 P N2))) k1 (B5 P N2) := fun _ _ _ _ _ _ _ _ _  => by kernel_rfl
def o6 := O 4048
def B6 (P : PT) (N2 : Y k1) : Y k1 := fun x1 x2 x3 x4 x9 x11 x13 H =>
  pif (decide ((x13 : Int) < 3)) (lenK x2 (fun n1 => pif (decide (((n1 : Int) : Int) ≤ x3)) (B5 P N2 x1 x2 x3 x4 x9 x11 x13 H) (B1 P x2 H))) (B1 P x2 H)
theorem q6 P N2 : Q o6 (cnd 47 (E k1 (B5 P N2)) (E k0 (B1 P))) k1 (B6 P N2) := fun _ _ _ _ _ _ _ _ _ => by kernel_rfl
def L2 (P : PT) : Y k1 := fun x1 x2 x3 x4 x9 x11 x13 H =>
  ∃ (I : Y k1) (μ : NTy k1 (AHeap → Nat)), I x1 x2 x3 x4 x9 x11 x13 H ∧ ∀ y1 y2 y3 y4 y9 y11 y13 G, I y1 y2 y3 y4 y9 y11 y13 G → B6 P (fun z1 z2 z3 z4 z9 z11 z13 G' => I z1 z2 z3 z4 z9 z11 z13 G' ∧ μ z1 z2 z3 z4 z9 z11 z13 G' < μ y1 y2 y3 y4 y9 y11 y13 G) y1 y2 y3 y4 y9 y11 y13 G
theorem l2 P : LQ k1 (L2 P) (B6 P) := fun ⟨_,_,_,_,_,_,_,_⟩ _ ⟨I, μ, h0, hI⟩ => ⟨apT _ I, apT _ μ, h0, fun ⟨_,_,_,_,_,_,_,_⟩ _ h => hI _ _ _ _ _ _ _ _  h⟩
abbrev k2 : Sk := [(1,.v),(2,.v),(3,J),(4,.x),(9,J),(11,J)]
def o7 := O 252
def B7 (P : PT) : Y k2 := fun x1 x2 x3 x4 x9 x11 H =>
  L2 P x1 x2 x3 x4 x9 x11 0 H
theorem q7 P : Q o7 (E k1 (L2 P)) k2 (B7 P) := fun _ _ _ _ _ _ _ _ => by kernel_rfl
abbrev k3 : Sk := [(1,.v),(2,.v),(3,J),(4,.x),(9,J),(10,.v),(11,J),(12,J)]
def o9 := O 2003
def B9 (P : PT) (N8 : Y k3) : Y k3 := fun x1 x2 x3 x4 x9 x10 x11 x12 H =>
  N8 x1 x2 x3 x4 x9 x10 x11 (IntKind.i64.wrap (x12 + 1)) H
theorem q9 P N8 : Q o9 (E k3 N8) k3 (B9 P N8) := fun _ _ _ _ _ _ _ _ _ _ => by kernel_rfl
abbrev k4 : Sk := [(1,.v),(2,.v),(3,J),(4,.x),(9,J),(10,.v),(12,J)]
def o10 := O 16018
def B10 (P : PT) (N8 : Y k3) : Y k4 := fun x1 x2 x3 x4 x9 x10 x12 H =>
  B9 P N8 x1 x2 x3 x4 x9 x10 x12 x12 H
theorem q10 P N8 : Q o10 (E k3 (B9 P N8)) k4 (B10 P N8) := fun _ _ _ _ _ _ _ _ _ => by kernel_rfl
def o11 := O 8008
def B11 (P : PT) (N8 : Y k3) : Y k3 := fun x1 x2 x3 x4 x9 x10 x11 x12 H =>
  idxK x10 x12 1 (fun b1 o2 => ldI .i64 H b1 o2 (fun v3 => pif ((v3 : Int) == x9) (B10 P N8 x1 x2 x3 x4 x9 x10 x12 H) (B9 P N8 x1 x2 x3 x4 x9 x10 x11 x12 H)))
theorem q11 P N8 : Q o11 (cnd 38 (E k4 (B10 P N8)) (E k3 (B9 P N8))) k3 (B11 P N8) := fun _ _ _ _ _ _ _ _ _ _ => by kernel_rfl
def o12 := O 2000
def B12 (P : PT) (N8 : Y k3) : Y k3 := fun x1 x2 x3 x4 x9 x10 x11 x12 H =>
  pif (decide ((x12 : Int) < 3)) (B11 P N8 x1 x2 x3 x4 x9 x10 x11 x12 H) (B7 P x1 x2 x3 x4 x9 x11 H)
theorem q12 P N8 : Q o12 (cnd 30 (E k3 (B11 P N8)) (E k2 (B7 P))) k3 (B12 P N8) := fun _ _ _ _ _ _ _ _ _ _ => by kernel_rfl
def L8 (P : PT) : Y k3 := fun x1 x2 x3 x4 x9 x10 x11 x12 H =>
  ∃ (I : Y k3) (μ : NTy k3 (AHeap → Nat)), I x1 x2 x3 x4 x9 x10 x11 x12 H ∧ ∀ y1 y2 y3 y4 y9 y10 y11 y12 G, I y1 y2 y3 y4 y9 y10 y11 y12 G → B12 P (fun z1 z2 z3 z4 z9 z10 z11 z12 G' => I z1 z2 z3 z4 z9 z10 z11 z12 G' ∧ μ z1 z2 z3 z4 z9 z10 z11 z12 G' < μ y1 y2 y3 y4 y9 y10 y11 y12 G) y1 y2 y3 y4 y9 y10 y11 y12 G
theorem l8 P : LQ k3 (L8 P) (B12 P) := fun ⟨_,_,_,_,_,_,_,_,_⟩ _ ⟨I, μ, h0, hI⟩ => ⟨apT _ I, apT _ μ, h0, fun ⟨_,_,_,_,_,_,_,_,_⟩ _ h => hI _ _ _ _ _ _ _ _ _  h⟩
abbrev k5 : Sk := [(1,.v),(2,.v),(3,J),(4,.x),(9,J),(10,.v),(11,J)]
def o13 := O 124
def B13 (P : PT) : Y k5 := fun x1 x2 x3 x4 x9 x10 x11 H =>
  L8 P x1 x2 x3 x4 x9 x10 x11 0 H
theorem q13 P : Q o13 (E k3 (L8 P)) k5 (B13 P) := fun _ _ _ _ _ _ _ _ _ => by kernel_rfl
abbrev k6 : Sk := [(1,.v),(2,.v),(3,J),(4,.x),(9,J)]
def o14 := O 30
def B14 (P : PT) : Y k6 := fun x1 x2 x3 x4 x9 H =>
  ldI .i64 H x4 0 (fun v1 => ld1 H x4 1 (fun v2 => AC Tryz.prog T0 175 [(Value.agg ⟨[(Value.int .i64 v1), v2]⟩), (Value.int .i64 0)] H (fun v3 H4 => B13 P x1 x2 x3 x4 x9 v3 (-1) H4)))
theorem q14 P : Q o14 (E k5 (B13 P)) k6 (B14 P) := fun _ _ _ _ _ _ _ => by kernel_rfl
abbrev k7 : Sk := [(1,.v),(2,.v)]
def o15 := O 116
def B15 (P : PT) : Y k7 := fun x1 x2 H =>
  AC Tryz.prog T0 138 [x1] H (fun v1 H2 => pif (Value.oneCell' v1) (newK H2 [v1] 28 (fun b4 H5 => apK T0 28 H5 x2 (Value.slice (some ⟨b4, 0, none⟩) 1 (1 + 1)) (fun v6 H7 => P v6 H7))) False)
theorem q15 P : Q o15 (ret P) k7 (B15 P) := fun _ _ _ _ => by kernel_rfl
def o16 := O 28
def B16 (P : PT) : Y k6 := fun x1 x2 x3 x4 x9 H =>
  lenK x1 (fun n1 => ld1 H x4 1 (fun v2 => lenK v2 (fun n3 => pif (((n1 : Int) : Int) == (n3 : Int)) (B15 P x1 x2 H) (B14 P x1 x2 x3 x4 x9 H))))
theorem q16 P : Q o16 (cnd 21 (E k7 (B15 P)) (E k6 (B14 P))) k6 (B16 P) := fun _ _ _ _ _ _ _ => by kernel_rfl
abbrev k8 : Sk := [(1,.v),(2,.v),(3,J),(4,.x)]
def o17 := O 6
def B17 (P : PT) : Y k8 := fun x1 x2 x3 x4 H =>
  lenK x1 (fun n1 => B16 P x1 x2 x3 x4 (n1 : Int) H)
theorem q17 P : Q o17 (E k6 (B16 P)) k8 (B17 P) := fun _ _ _ _ _ _ => by kernel_rfl
abbrev k9 : Sk := [(0,.g [.i,.v]),(1,.v),(2,.v),(3,J)]
def o18 := O 2
def B18 (P : PT) : Y k9 := fun x0a x0b x1 x2 x3 H =>
  newK H [(Value.int .i64 x0a), x0b] 26 (fun b1 H2 => B17 P x1 x2 x3 b1 H2)
theorem q18 P : Q o18 (E k8 (B17 P)) k9 (B18 P) := fun _ _ _ _ _ _ _ => by kernel_rfl
def code : Code := (.seq (R 0 o18) (.seq (R 1 o17) (.seq (.seq (R 2 o16) (.cond (.tmp 21) (.seq (R 3 o15) .ret) .skip)) (.seq (R 4 o14) (.seq (.seq (R 5 o13) (.block 0 (.loop (.seq (.seq (R 6 o12) (.cond (.tmp 30) .skip (.exit 0))) (.seq (.block 1 (.seq (R 8 o11) (.cond (.tmp 38) (R 9 o10) .skip))) (R 7 o9)))))) (.seq (.seq (R 10 o7) (.block 2 (.loop (.seq (.seq (R 11 o6) (.cond (.tmp 47) .skip (.exit 2))) (.seq (.block 3 (.seq (.seq (.region 13 ⟨o5⟩ true) (.cond (.tmp 68) (.exit 3) .skip)) (.region 14 ⟨o4⟩ true))) (R 12 o3)))))) (.seq (R 15 o1) .ret)))))))
theorem body : Tryz.f211.body = some code := by kernel_rfl
theorem main (P : PT) : ∀ env H, (En 79 k9 (B18 P)) env H → AW Tryz.prog T0 code env H (M (ret P)) :=
  (r_seq (b (q18 P)) (r_seq (b (q17 P)) (r_seq (r_seq (b (q16 P)) (r_cond rfl (r_seq (b (q15 P)) r_ret) r_skip)) (r_seq (b (q14 P)) (r_seq (r_seq (b (q13 P)) (r_block (rL (l8 P) (fun N8 => (r_seq (r_seq (b (q12 P N8)) (r_cond rfl r_skip (r_exit (fun _ _ h => h)))) (r_seq (r_block (r_seq (b (q11 P N8)) (r_cond rfl (b (q10 P N8)) r_skip))) (b (q9 P N8)))))))) (r_seq (r_seq (b (q7 P)) (r_block (rL (l2 P) (fun N2 => (r_seq (r_seq (b (q6 P N2)) (r_cond rfl r_skip (r_exit (fun _ _ h => h)))) (r_seq (r_block (r_seq (r_seq (rT T0_ok mixed (.op 0 [] (.op 1 [] (.op 2 [] (.op 3 [] (.op 4 [] (.op 5 [] (.op 6 [] (.op 7 [] (.op 8 [] (.op 9 [] (.op 11 [] (.op 14 [] (.op 15 [] (.alt (.op 10 [8] (.op 12 [] (.op 13 [8] (.op 16 [] (.op 17 [] (.op 18 [] .done)))))) (.op 12 [] (.op 10 [8] (.op 13 [8] (.op 16 [] (.op 17 [] (.op 18 [] .done)))))))))))))))))))) (by kernel_rfl) (q5 P N2)) (r_cond rfl (r_exit (fun _ _ h => h)) r_skip)) (rT T0_ok mixed (.op 0 [] (.op 1 [] (.op 3 [] (.op 6 [] (.op 7 [] (.alt (.op 2 [0] (.op 4 [] (.op 5 [0] (.op 8 [] (.op 9 [] .done))))) (.op 4 [] (.op 2 [0] (.op 5 [0] (.op 8 [] (.op 9 [] .done))))))))))) (by kernel_rfl) (q4 P N2)))) (b (q3 P N2)))))))) (r_seq (b (q1 P)) r_ret)))))))
theorem ac (P : PT) (x0a : Int) (x0b x1 x2 : Value) (x3 : Int) (H : AHeap) (h : B18 P x0a x0b x1 x2 x3 H) : AC Tryz.prog T0 211 [(Value.agg ⟨[(Value.int .i64 x0a), x0b]⟩), x1, x2, (Value.int .i64 x3)] H P :=
  r_fn T0_ok (c := code) (n := 79) Tryz.func211 body (by kernel_rfl) (main P) (En_mk (x0a, x0b, x1, x2, x3, ()) (by kernel_rfl) ⟨by kernel_rfl, by kernel_rfl, by kernel_rfl, by kernel_rfl, trivial⟩ h)

end F211
namespace F212
abbrev E := En 38
abbrev Q := QB Tryz.prog T0 38
def O (k : Nat) := ob Tryz.f212 (pth k)
def ret (P : PT) : EP := retE T0 38 Tryz.f212 P
abbrev k0 : Sk := [(0,.v),(2,J),(22,.g [.i,.i]),(23,J)]
def o2 := O 231
def B2 (P : PT) (N1 : Y k0) : Y k0 := fun x0 x2 x22a x22b x23 H =>
  N1 x0 x2 x22a x22b (IntKind.i64.wrap (x23 + 1)) H
theorem q2 P N1 : Q o2 (E k0 N1) k0 (B2 P N1) := fun _ _ _ _ _ _ _ => by kernel_rfl
abbrev k1 : Sk := [(0,.v),(2,J),(7,J),(22,.g [.i,.i]),(23,J)]
def o3 := O 921
def B3 (P : PT) (N1 : Y k0) : Y k1 := fun x0 x2 x7 x22a x22b x23 H =>
  nilK x0 (fun v1 => asP v1 (fun b2 o3 => ld1 H b2 (o3 + 4) (fun v4 => idxK v4 x7 1 (fun b5 o6 => ldI .u64 H b5 o6 (fun v7 => ((0 : Int) ≤ x2) ∧ (idxK v4 x7 1 (fun b8 o9 => stK H b8 o9 [(Value.int .u64 (IntKind.u64.wrap (BitVec.ofInt 64 v7 ||| BitVec.ofInt 64 (IntKind.u64.wrap (1 * 2 ^ (min (Int.toNat x2) 64)))).toNat))] (fun H10 => B2 P N1 x0 x2 x22a x22b x23 H10))))))))
theorem q3 (P : PT) (N1 : Y k0) : QD Tryz.prog T0 38 o3 [(0, false), (1, false), (2, false), (3, false), (4, false), (5, false), (6, false), (7, false), (8, false), (9, false), (10, false), (11, false)] (En 38 k0 (B2 P N1)) k1 (B3 P N1) := fun _ _ _ _ _ _ _ _  => by kernel_rfl
def o4 := O 920
def B4 (P : PT) (N1 : Y k0) : Y k0 := fun x0 x2 x22a x22b x23 H =>
  bndK x23 2 (atK [(Value.int .i64 x22a), (Value.int .i64 x22b)] (Int.toNat x23 * 1) (fun v1 => asI .i64 v1 (fun v2 => B3 P N1 x0 x2 v2 x22a x22b x23 H)))
theorem q4 P N1 : Q o4 (E k1 (B3 P N1)) k0 (B4 P N1) := fun _ _ _ _ _ _ _ => by kernel_rfl
def o5 := O 56
def B5 (P : PT) (N1 : Y k0) : Y k0 := fun x0 x2 x22a x22b x23 H =>
  pif (decide ((x23 : Int) < 2)) (B4 P N1 x0 x2 x22a x22b x23 H) (P (Value.tuple ⟨[]⟩) H)
theorem q5 P N1 : Q o5 (cnd 24 (E k0 (B4 P N1)) (ret P)) k0 (B5 P N1) := fun _ _ _ _ _ _ _ => by kernel_rfl
def L1 (P : PT) : Y k0 := fun x0 x2 x22a x22b x23 H =>
  ∃ (I : Y k0) (μ : NTy k0 (AHeap → Nat)), I x0 x2 x22a x22b x23 H ∧ ∀ y0 y2 y22a y22b y23 G, I y0 y2 y22a y22b y23 G → B5 P (fun z0 z2 z22a z22b z23 G' => I z0 z2 z22a z22b z23 G' ∧ μ z0 z2 z22a z22b z23 G' < μ y0 y2 y22a y22b y23 G) y0 y2 y22a y22b y23 G
theorem l1 P : LQ k0 (L1 P) (B5 P) := fun ⟨_,_,_,_,_,_⟩ _ ⟨I, μ, h0, hI⟩ => ⟨apT _ I, apT _ μ, h0, fun ⟨_,_,_,_,_,_⟩ _ h => hI _ _ _ _ _ _  h⟩
abbrev k2 : Sk := [(0,.v),(1,J),(2,J)]
def o6 := O 6
def B6 (P : PT) : Y k2 := fun x0 x1 x2 H =>
  nilK x0 (fun v1 => asP v1 (fun b2 o3 => ld1 H b2 (o3 + 1) (fun v4 => idxK v4 x1 2 (fun b5 o6 => ldI .i64 H b5 o6 (fun v7 => ldI .i64 H b5 (o6 + 1) (fun v8 => L1 P x0 x2 v7 v8 0 H))))))
theorem q6 P : Q o6 (E k0 (L1 P)) k2 (B6 P) := fun _ _ _ _ _ => by kernel_rfl
def o7 := O 2
def B7 (P : PT) : Y k2 := fun x0 x1 x2 H =>
  nilK x0 (fun v1 => asP v1 (fun b2 o3 => ld1 H b2 (o3 + 3) (fun v4 => idxK v4 x1 1 (fun b5 o6 => stK H b5 o6 [(Value.int .i64 x2)] (fun H7 => B6 P x0 x1 x2 H7)))))
theorem q7 P : Q o7 (E k2 (B6 P)) k2 (B7 P) := fun _ _ _ _ _ => by kernel_rfl
def code : Code := (.seq (R 0 o7) (.seq (R 1 o6) (.block 0 (.loop (.seq (R 2 o5) (.seq (.cond (.tmp 24) .skip (.exit 0)) (.seq (.block 1 (.seq (R 3 o4) (.region 4 ⟨o3⟩ true))) (R 5 o2))))))))
theorem body : Tryz.f212.body = some code := by kernel_rfl
theorem main (P : PT) : ∀ env H, (En 38 k2 (B7 P)) env H → AW Tryz.prog T0 code env H (M (ret P)) :=
  (r_seq (b (q7 P)) (r_seq (b (q6 P)) (r_block (rL (l1 P) (fun N1 => (r_seq (b (q5 P N1)) (r_seq (r_cond rfl r_skip (r_exit (fun _ _ h => h))) (r_seq (r_block (r_seq (b (q4 P N1)) (rD T0_ok mixed [(0, false), (1, false), (2, false), (3, false), (4, false), (5, false), (6, false), (7, false), (8, false), (9, false), (10, false), (11, false)] (by kernel_rfl) (q3 P N1)))) (b (q2 P N1))))))))))
theorem ac (P : PT) (x0 : Value) (x1 x2 : Int) (H : AHeap) (h : B7 P x0 x1 x2 H) : AC Tryz.prog T0 212 [x0, (Value.int .i64 x1), (Value.int .i64 x2)] H P :=
  r_fn T0_ok (c := code) (n := 38) Tryz.func212 body (by kernel_rfl) (main P) (En_mk (x0, x1, x2, ()) (by kernel_rfl) ⟨by kernel_rfl, by kernel_rfl, by kernel_rfl, trivial⟩ h)

end F212
namespace F213
abbrev E := En 100
abbrev Q := QB Tryz.prog T0 100
def O (k : Nat) := ob Tryz.f213 (pth k)
def ret (P : PT) : EP := retE T0 100 Tryz.f213 P
abbrev k0 : Sk := []
def o1 := O 254
def B1 (P : PT) : Y k0 := fun H =>
  P (Value.bool false) H
theorem q1 P : Q o1 (ret P) k0 (B1 P) := fun _ _ => by kernel_rfl
abbrev k1 : Sk := [(0,.v),(1,J),(5,J),(6,.x),(65,J)]
def o3 := O 8103
def B3 (P : PT) (N2 : Y k1) : Y k1 := fun x0 x1 x5 x6 x65 H =>
  N2 x0 x1 x5 x6 (IntKind.i64.wrap (x65 + 1)) H
theorem q3 P N2 : Q o3 (E k1 N2) k1 (B3 P N2) := fun _ _ _ _ _ _ _ => by kernel_rfl
def o4 := O 4148476
def B4 (P : PT) (N2 : Y k1) : Y k0 := fun H =>
  P (Value.bool true) H
theorem q4 P N2 : Q o4 (ret P) k0 (B4 P N2) := fun _ _ => by kernel_rfl
abbrev k2 : Sk := [(0,.v),(1,J),(5,J),(6,.x),(8,.b),(65,J)]
def o5 := O 1037118
def B5 (P : PT) (N2 : Y k1) : Y k2 := fun x0 x1 x5 x6 x8 x65 H =>
  pif x8 (B4 P N2 H) (B3 P N2 x0 x1 x5 x6 x65 H)
theorem q5 P N2 : Q o5 (cnd 98 (E k0 (B4 P N2)) (E k1 (B3 P N2))) k2 (B5 P N2) := fun _ _ _ _ _ _ _ _ => by kernel_rfl
def o6 := O 518558
def B6 (P : PT) (N2 : Y k1) : Y k2 := fun x0 x1 x5 x6 x8 x65 H =>
  AC Tryz.prog T0 227 [x0, (Value.int .i64 x5)] H (fun v1 H2 => asTup v1 (fun l3 => B5 P N2 x0 x1 x5 x6 x8 x65 H2))
theorem q6 P N2 : Q o6 (E k2 (B5 P N2)) k2 (B6 P N2) := fun _ _ _ _ _ _ _ _ => by kernel_rfl
def o7 := O 259278
def B7 (P : PT) (N2 : Y k1) : Y k1 := fun x0 x1 x5 x6 x65 H =>
  AC Tryz.prog T0 213 [x0, (Value.int .i64 (IntKind.i64.wrap (x1 + 1)))] H (fun v1 H2 => asB v1 (fun v3 => B6 P N2 x0 x1 x5 x6 v3 x65 H2))
theorem q7 P N2 : Q o7 (E k2 (B6 P N2)) k1 (B7 P N2) := fun _ _ _ _ _ _ _ => by kernel_rfl
abbrev k3 : Sk := [(0,.v),(1,J),(5,J),(6,.x),(7,J),(65,J)]
def o8 := O 129638
def B8 (P : PT) (N2 : Y k1) : Y k3 := fun x0 x1 x5 x6 x7 x65 H =>
  AC Tryz.prog T0 212 [x0, (Value.int .i64 x5), (Value.int .i64 x7)] H (fun v1 H2 => asTup v1 (fun l3 => B7 P N2 x0 x1 x5 x6 x65 H2))
theorem q8 P N2 : Q o8 (E k1 (B7 P N2)) k3 (B8 P N2) := fun _ _ _ _ _ _ _ _ => by kernel_rfl
def o9 := O 129636
def B9 (P : PT) (N2 : Y k1) : Y k3 := fun x0 x1 x5 x6 x7 x65 H =>
  nilK x0 (fun v1 => asP v1 (fun b2 o3 => ld1 H b2 (o3 + 4) (fun v4 => ldI .i64 H x6 0 (fun v5 => idxK v4 v5 1 (fun b6 o7 => ldI .u64 H b6 o7 (fun v8 => nilK x0 (fun v9 => asP v9 (fun b10 o11 => ld1 H b10 (o11 + 4) (fun v12 => ldI .i64 H x6 1 (fun v13 => idxK v12 v13 1 (fun b14 o15 => ldI .u64 H b14 o15 (fun v16 => AC Tryz.prog T0 134 [(Value.int .u64 (IntKind.u64.wrap (BitVec.ofInt 64 v8 ||| BitVec.ofInt 64 v16).toNat)), (Value.int .i64 x7)] H (fun v17 H18 => asB v17 (fun v19 => pif v19 (B3 P N2 x0 x1 x5 x6 x65 H18) (B8 P N2 x0 x1 x5 x6 x7 x65 H18)))))))))))))))
theorem q9 (P : PT) (N2 : Y k1) : QD Tryz.prog T0 100 o9 [(0, false), (1, false), (2, false), (3, false), (4, false), (5, false), (6, false), (7, false), (8, false), (9, false), (10, false), (11, false), (12, false), (13, false), (14, false), (15, false), (16, false), (17, false), (18, false)] (cnd 86 (En 100 k1 (B3 P N2)) (En 100 k3 (B8 P N2))) k3 (B9 P N2) := fun _ _ _ _ _ _ _ _  => by kernel_rfl
def o10 := O 32408
def B10 (P : PT) (N2 : Y k1) : Y k1 := fun x0 x1 x5 x6 x65 H =>
  B9 P N2 x0 x1 x5 x6 x65 x65 H
theorem q10 P N2 : Q o10 (E k3 (B9 P N2)) k1 (B10 P N2) := fun _ _ _ _ _ _ _ => by kernel_rfl
def o11 := O 2024
def B11 (P : PT) (N2 : Y k1) : Y k1 := fun x0 x1 x5 x6 x65 H =>
  pif (decide ((x65 : Int) < 3)) (B10 P N2 x0 x1 x5 x6 x65 H) (B1 P H)
theorem q11 P N2 : Q o11 (cnd 66 (E k1 (B10 P N2)) (E k0 (B1 P))) k1 (B11 P N2) := fun _ _ _ _ _ _ _ => by kernel_rfl
def L2 (P : PT) : Y k1 := fun x0 x1 x5 x6 x65 H =>
  ∃ (I : Y k1) (μ : NTy k1 (AHeap → Nat)), I x0 x1 x5 x6 x65 H ∧ ∀ y0 y1 y5 y6 y65 G, I y0 y1 y5 y6 y65 G → B11 P (fun z0 z1 z5 z6 z65 G' => I z0 z1 z5 z6 z65 G' ∧ μ z0 z1 z5 z6 z65 G' < μ y0 y1 y5 y6 y65 G) y0 y1 y5 y6 y65 G
theorem l2 P : LQ k1 (L2 P) (B11 P) := fun ⟨_,_,_,_,_,_⟩ _ ⟨I, μ, h0, hI⟩ => ⟨apT _ I, apT _ μ, h0, fun ⟨_,_,_,_,_,_⟩ _ h => hI _ _ _ _ _ _  h⟩
abbrev k4 : Sk := [(0,.v),(1,J),(5,J),(6,.x)]
def o12 := O 252
def B12 (P : PT) : Y k4 := fun x0 x1 x5 x6 H =>
  L2 P x0 x1 x5 x6 0 H
theorem q12 P : Q o12 (E k1 (L2 P)) k4 (B12 P) := fun _ _ _ _ _ _ => by kernel_rfl
abbrev k5 : Sk := [(0,.v),(1,J),(5,J)]
def o13 := O 62
def B13 (P : PT) : Y k5 := fun x0 x1 x5 H =>
  nilK x0 (fun v1 => asP v1 (fun b2 o3 => ld1 H b2 (o3 + 1) (fun v4 => idxK v4 x5 2 (fun b5 o6 => ldI .i64 H b5 o6 (fun v7 => ldI .i64 H b5 (o6 + 1) (fun v8 => newK H [(Value.int .i64 0), (Value.int .i64 0)] 78 (fun b9 H10 => stK H10 b9 0 [(Value.int .i64 v7), (Value.int .i64 v8)] (fun H11 => B12 P x0 x1 x5 b9 H11))))))))
theorem q13 P : Q o13 (E k4 (B12 P)) k5 (B13 P) := fun _ _ _ _ _ => by kernel_rfl
abbrev k6 : Sk := [(0,.v),(1,J)]
def o14 := O 30
def B14 (P : PT) : Y k6 := fun x0 x1 H =>
  nilK x0 (fun v1 => asP v1 (fun b2 o3 => ld1 H b2 (o3 + 2) (fun v4 => idxK v4 x1 1 (fun b5 o6 => ldI .i64 H b5 o6 (fun v7 => B13 P x0 x1 v7 H)))))
theorem q14 P : Q o14 (E k5 (B13 P)) k6 (B14 P) := fun _ _ _ _ => by kernel_rfl
abbrev k7 : Sk := [(0,.v)]
def o15 := O 116
def B15 (P : PT) : Y k7 := fun x0 H =>
  nilK x0 (fun v1 => asP v1 (fun b2 o3 => ld1 H b2 (o3 + 5) (fun v4 => nilK x0 (fun v5 => asP v5 (fun b6 o7 => ld1 H b6 (o7 + 3) (fun v8 => callV Tryz.prog T0 v4 [v8] H (fun v9 H10 => asB v9 (fun v11 => P (Value.bool v11) H10))))))))
theorem q15 (P : PT) : QD Tryz.prog T0 100 o15 [(0, false), (1, false), (2, false), (3, false), (4, false), (5, false), (6, false), (7, false), (8, false), (9, false)] (ret P) k7 (B15 P) := fun _ _ _  => by kernel_rfl
def o16 := O 28
def B16 (P : PT) : Y k6 := fun x0 x1 H =>
  nilK x0 (fun v1 => asP v1 (fun b2 o3 => ld1 H b2 (o3 + 2) (fun v4 => lenK v4 (fun n5 => pif ((x1 : Int) == (n5 : Int)) (B15 P x0 H) (B14 P x0 x1 H)))))
theorem q16 P : Q o16 (cnd 40 (E k7 (B15 P)) (E k6 (B14 P))) k6 (B16 P) := fun _ _ _ _ => by kernel_rfl
def o18 := O 98
def B18 (P : PT) (N17 : Y k6) : Y k6 := fun x0 x1 H =>
  N17 x0 (IntKind.i64.wrap (x1 + 1)) H
theorem q18 P N17 : Q o18 (E k6 N17) k6 (B18 P N17) := fun _ _ _ _ => by kernel_rfl
def o19 := O 96
def B19 (P : PT) (N17 : Y k6) : Y k6 := fun x0 x1 H =>
  nilK x0 (fun v1 => asP v1 (fun b2 o3 => ld1 H b2 (o3 + 2) (fun v4 => lenK v4 (fun n5 => pif (decide ((x1 : Int) < (n5 : Int))) (nilK x0 (fun v6 => asP v6 (fun b7 o8 => ld1 H b7 (o8 + 3) (fun v9 => nilK x0 (fun v10 => asP v10 (fun b11 o12 => ld1 H b11 (o12 + 2) (fun v13 => idxK v13 x1 1 (fun b14 o15 => ldI .i64 H b14 o15 (fun v16 => idxK v9 v16 1 (fun b17 o18 => ldI .i64 H b17 o18 (fun v19 => pif ((v19 : Int) != (-1)) (B18 P N17 x0 x1 H) (B16 P x0 x1 H)))))))))))) (B16 P x0 x1 H)))))
theorem q19 (P : PT) (N17 : Y k6) : QD Tryz.prog T0 100 o19 [(0, false), (1, false), (2, false), (3, false), (4, false), (5, false), (6, false), (7, false), (8, false), (9, false), (10, false), (11, false), (12, false), (13, false), (14, false), (15, false), (16, false), (17, false), (18, false), (19, false), (20, false), (21, false), (22, false)] (cnd 31 (En 100 k6 (B18 P N17)) (En 100 k6 (B16 P))) k6 (B19 P N17) := fun _ _ _ _  => by kernel_rfl
def L17 (P : PT) : Y k6 := fun x0 x1 H =>
  ∃ (I : Y k6) (μ : NTy k6 (AHeap → Nat)), I x0 x1 H ∧ ∀ y0 y1 G, I y0 y1 G → B19 P (fun z0 z1 G' => I z0 z1 G' ∧ μ z0 z1 G' < μ y0 y1 G) y0 y1 G
theorem l17 P : LQ k6 (L17 P) (B19 P) := fun ⟨_,_,_⟩ _ ⟨I, μ, h0, hI⟩ => ⟨apT _ I, apT _ μ, h0, fun ⟨_,_,_⟩ _ h => hI _ _ _  h⟩
def o20 := O 2
def B20 (P : PT) : Y k6 := fun x0 x1 H =>
  L17 P x0 x1 H
theorem q20 P : Q o20 (E k6 (L17 P)) k6 (B20 P) := fun _ _ _ _ => by kernel_rfl
def code : Code := (.seq (R 0 o20) (.seq (.block 0 (.loop (.seq (.seq (.region 1 ⟨o19⟩ true) (.cond (.tmp 31) .skip (.exit 0))) (.block 1 (R 2 o18))))) (.seq (.seq (R 3 o16) (.cond (.tmp 40) (.seq (.region 4 ⟨o15⟩ true) .ret) .skip)) (.seq (R 5 o14) (.seq (R 6 o13) (.seq (.seq (R 7 o12) (.block 2 (.loop (.seq (R 8 o11) (.seq (.cond (.tmp 66) .skip (.exit 2)) (.seq (.block 3 (.seq (R 9 o10) (.seq (.seq (.region 10 ⟨o9⟩ true) (.cond (.tmp 86) (.exit 3) .skip)) (.seq (R 11 o8) (.seq (R 12 o7) (.seq (R 13 o6) (.seq (R 14 o5) (.cond (.tmp 98) (.seq (R 15 o4) .ret) .skip)))))))) (R 16 o3))))))) (.seq (R 17 o1) .ret)))))))
theorem body : Tryz.f213.body = some code := by kernel_rfl
theorem main (P : PT) : ∀ env H, (En 100 k6 (B20 P)) env H → AW Tryz.prog T0 code env H (M (ret P)) :=
  (r_seq (b (q20 P)) (r_seq (r_block (rL (l17 P) (fun N17 => (r_seq (r_seq (rD T0_ok mixed [(0, false), (1, false), (2, false), (3, false), (4, false), (5, false), (6, false), (7, false), (8, false), (9, false), (10, false), (11, false), (12, false), (13, false), (14, false), (15, false), (16, false), (17, false), (18, false), (19, false), (20, false), (21, false), (22, false)] (by kernel_rfl) (q19 P N17)) (r_cond rfl r_skip (r_exit (fun _ _ h => h)))) (r_block (b (q18 P N17))))))) (r_seq (r_seq (b (q16 P)) (r_cond rfl (r_seq (rD T0_ok mixed [(0, false), (1, false), (2, false), (3, false), (4, false), (5, false), (6, false), (7, false), (8, false), (9, false)] (by kernel_rfl) (q15 P)) r_ret) r_skip)) (r_seq (b (q14 P)) (r_seq (b (q13 P)) (r_seq (r_seq (b (q12 P)) (r_block (rL (l2 P) (fun N2 => (r_seq (b (q11 P N2)) (r_seq (r_cond rfl r_skip (r_exit (fun _ _ h => h))) (r_seq (r_block (r_seq (b (q10 P N2)) (r_seq (r_seq (rD T0_ok mixed [(0, false), (1, false), (2, false), (3, false), (4, false), (5, false), (6, false), (7, false), (8, false), (9, false), (10, false), (11, false), (12, false), (13, false), (14, false), (15, false), (16, false), (17, false), (18, false)] (by kernel_rfl) (q9 P N2)) (r_cond rfl (r_exit (fun _ _ h => h)) r_skip)) (r_seq (b (q8 P N2)) (r_seq (b (q7 P N2)) (r_seq (b (q6 P N2)) (r_seq (b (q5 P N2)) (r_cond rfl (r_seq (b (q4 P N2)) r_ret) r_skip)))))))) (b (q3 P N2))))))))) (r_seq (b (q1 P)) r_ret)))))))
theorem ac (P : PT) (x0 : Value) (x1 : Int) (H : AHeap) (h : B20 P x0 x1 H) : AC Tryz.prog T0 213 [x0, (Value.int .i64 x1)] H P :=
  r_fn T0_ok (c := code) (n := 100) Tryz.func213 body (by kernel_rfl) (main P) (En_mk (x0, x1, ()) (by kernel_rfl) ⟨by kernel_rfl, by kernel_rfl, trivial⟩ h)

end F213
namespace F214
abbrev E := En 10
abbrev Q := QB Tryz.prog T0 10
def O (k : Nat) := ob Tryz.f214 (pth k)
def ret (P : PT) : EP := retE T0 10 Tryz.f214 P
abbrev k0 : Sk := [(0,J)]
def o1 := O 6
def B1 (P : PT) : Y k0 := fun x0 H =>
  AC Tryz.prog T0 77 [(Value.int .i64 x0), (Value.int .i64 2), (Value.int .i64 20)] H (fun v1 H2 => asB v1 (fun v3 => pif v3 (P (Value.bool ((Int.tmod x0 2 : Int) == 0)) H2) (P (Value.bool false) H2)))
theorem q1 P : Q o1 (ret P) k0 (B1 P) := fun _ _ _ => by kernel_rfl
def o2 := O 2
def B2 (P : PT) : Y k0 := fun x0 H =>
  B1 P x0 H
theorem q2 P : Q o2 (E k0 (B1 P)) k0 (B2 P) := fun _ _ _ => by kernel_rfl
def code : Code := (.seq (R 0 o2) (.seq (R 1 o1) .ret))
theorem body : Tryz.f214.body = some code := by kernel_rfl
theorem main (P : PT) : ∀ env H, (En 10 k0 (B2 P)) env H → AW Tryz.prog T0 code env H (M (ret P)) :=
  (r_seq (b (q2 P)) (r_seq (b (q1 P)) r_ret))
theorem ac (P : PT) (x0 : Int) (H : AHeap) (h : B2 P x0 H) : AC Tryz.prog T0 214 [(Value.int .i64 x0)] H P :=
  r_fn T0_ok (c := code) (n := 10) Tryz.func214 body (by kernel_rfl) (main P) (En_mk (x0, ()) (by kernel_rfl) ⟨by kernel_rfl, trivial⟩ h)

end F214
namespace F215
abbrev E := En 23
abbrev Q := QB Tryz.prog T0 23
def O (k : Nat) := ob Tryz.f215 (pth k)
def ret (P : PT) : EP := retE T0 23 Tryz.f215 P
abbrev k0 : Sk := [(1,.v),(2,.x)]
def o1 := O 6
def B1 (P : PT) : Y k0 := fun x1 x2 H =>
  ldI .i64 H x2 0 (fun v1 => asP x1 (fun b2 o3 => ldI .i64 H b2 o3 (fun v4 => AC Tryz.prog T0 77 [(Value.int .i64 v1), (Value.int .i64 0), (Value.int .i64 (IntKind.i64.wrap (v4 - 1)))] H (fun v5 H6 => asB v5 (fun v7 => pif v7 (ldI .i64 H6 x2 1 (fun v8 => asP x1 (fun b9 o10 => ldI .i64 H6 b9 o10 (fun v11 => AC Tryz.prog T0 77 [(Value.int .i64 v8), (Value.int .i64 0), (Value.int .i64 (IntKind.i64.wrap (v11 - 1)))] H6 (fun v12 H13 => asB v12 (fun v14 => pif v14 (ldI .i64 H13 x2 0 (fun v15 => ldI .i64 H13 x2 1 (fun v16 => P (Value.bool ((v15 : Int) != v16)) H13))) (P (Value.bool false) H13))))))) (P (Value.bool false) H6))))))
theorem q1 P : Q o1 (ret P) k0 (B1 P) := fun _ _ _ _ => by kernel_rfl
abbrev k1 : Sk := [(0,.g [.i,.i]),(1,.v)]
def o2 := O 2
def B2 (P : PT) : Y k1 := fun x0a x0b x1 H =>
  newK H [(Value.int .i64 x0a), (Value.int .i64 x0b)] 78 (fun b1 H2 => B1 P x1 b1 H2)
theorem q2 P : Q o2 (E k0 (B1 P)) k1 (B2 P) := fun _ _ _ _ _ => by kernel_rfl
def code : Code := (.seq (R 0 o2) (.seq (R 1 o1) .ret))
theorem body : Tryz.f215.body = some code := by kernel_rfl
theorem main (P : PT) : ∀ env H, (En 23 k1 (B2 P)) env H → AW Tryz.prog T0 code env H (M (ret P)) :=
  (r_seq (b (q2 P)) (r_seq (b (q1 P)) r_ret))
theorem ac (P : PT) (x0a x0b : Int) (x1 : Value) (H : AHeap) (h : B2 P x0a x0b x1 H) : AC Tryz.prog T0 215 [(Value.agg ⟨[(Value.int .i64 x0a), (Value.int .i64 x0b)]⟩), x1] H P :=
  r_fn T0_ok (c := code) (n := 23) Tryz.func215 body (by kernel_rfl) (main P) (En_mk (x0a, x0b, x1, ()) (by kernel_rfl) ⟨by kernel_rfl, by kernel_rfl, trivial⟩ h)

end F215
namespace F216
abbrev E := En 9
abbrev Q := QB Tryz.prog T0 9
def O (k : Nat) := ob Tryz.f216 (pth k)
def ret (P : PT) : EP := retE T0 9 Tryz.f216 P
abbrev k0 : Sk := [(0,.v),(1,.v)]
def o1 := O 6
def B1 (P : PT) : Y k0 := fun x0 x1 H =>
  AC Tryz.prog T0 228 [x0, x1] H (fun v1 H2 => asI .i64 v1 (fun v3 => P (Value.bool (decide ((v3 : Int) ≥ 0))) H2))
theorem q1 P : Q o1 (ret P) k0 (B1 P) := fun _ _ _ _ => by kernel_rfl
def o2 := O 2
def B2 (P : PT) : Y k0 := fun x0 x1 H =>
  B1 P x0 x1 H
theorem q2 P : Q o2 (E k0 (B1 P)) k0 (B2 P) := fun _ _ _ _ => by kernel_rfl
def code : Code := (.seq (R 0 o2) (.seq (R 1 o1) .ret))
theorem body : Tryz.f216.body = some code := by kernel_rfl
theorem main (P : PT) : ∀ env H, (En 9 k0 (B2 P)) env H → AW Tryz.prog T0 code env H (M (ret P)) :=
  (r_seq (b (q2 P)) (r_seq (b (q1 P)) r_ret))
theorem ac (P : PT) (x0 x1 : Value) (H : AHeap) (h : B2 P x0 x1 H) : AC Tryz.prog T0 216 [x0, x1] H P :=
  r_fn T0_ok (c := code) (n := 9) Tryz.func216 body (by kernel_rfl) (main P) (En_mk (x0, x1, ()) (by kernel_rfl) ⟨by kernel_rfl, by kernel_rfl, trivial⟩ h)

end F216
namespace F217
abbrev E := En 8
abbrev Q := QB Tryz.prog T0 8
def O (k : Nat) := ob Tryz.f217 (pth k)
def ret (P : PT) : EP := retE T0 8 Tryz.f217 P
abbrev k0 : Sk := [(1,.v),(2,.x)]
def o1 := O 6
def B1 (P : PT) : Y k0 := fun x1 x2 H =>
  asP x1 (fun b1 o2 => ld1 H b1 o2 (fun v3 => ldI .i64 H x2 0 (fun v4 => ldI .i64 H x2 1 (fun v5 => callV Tryz.prog T0 v3 [(Value.agg ⟨[(Value.int .i64 v4), (Value.int .i64 v5)]⟩)] H (fun v6 H7 => asB v6 (fun v8 => P (Value.bool (!v8)) H7))))))
theorem q1 P : Q o1 (ret P) k0 (B1 P) := fun _ _ _ _ => by kernel_rfl
abbrev k1 : Sk := [(0,.g [.i,.i]),(1,.v)]
def o2 := O 2
def B2 (P : PT) : Y k1 := fun x0a x0b x1 H =>
  newK H [(Value.int .i64 x0a), (Value.int .i64 x0b)] 78 (fun b1 H2 => B1 P x1 b1 H2)
theorem q2 P : Q o2 (E k0 (B1 P)) k1 (B2 P) := fun _ _ _ _ _ => by kernel_rfl
def code : Code := (.seq (R 0 o2) (.seq (R 1 o1) .ret))
theorem body : Tryz.f217.body = some code := by kernel_rfl
theorem main (P : PT) : ∀ env H, (En 8 k1 (B2 P)) env H → AW Tryz.prog T0 code env H (M (ret P)) :=
  (r_seq (b (q2 P)) (r_seq (b (q1 P)) r_ret))
theorem ac (P : PT) (x0a x0b : Int) (x1 : Value) (H : AHeap) (h : B2 P x0a x0b x1 H) : AC Tryz.prog T0 217 [(Value.agg ⟨[(Value.int .i64 x0a), (Value.int .i64 x0b)]⟩), x1] H P :=
  r_fn T0_ok (c := code) (n := 8) Tryz.func217 body (by kernel_rfl) (main P) (En_mk (x0a, x0b, x1, ()) (by kernel_rfl) ⟨by kernel_rfl, by kernel_rfl, trivial⟩ h)

end F217
namespace F218
abbrev E := En 9
abbrev Q := QB Tryz.prog T0 9
def O (k : Nat) := ob Tryz.f218 (pth k)
def ret (P : PT) : EP := retE T0 9 Tryz.f218 P
abbrev k0 : Sk := [(0,.v),(3,.x)]
def o1 := O 6
def B1 (P : PT) : Y k0 := fun x0 x3 H =>
  AC Tryz.prog T0 229 [x0, (Value.func (.func 230) ⟨[]⟩ ⟨[(Value.pointer (some ⟨x3, 0, none⟩))]⟩)] H (fun v1 H2 => asB v1 (fun v3 => P (Value.bool (!v3)) H2))
theorem q1 P : Q o1 (ret P) k0 (B1 P) := fun _ _ _ _ => by kernel_rfl
abbrev k1 : Sk := [(0,.v),(1,.v)]
def o2 := O 2
def B2 (P : PT) : Y k1 := fun x0 x1 H =>
  pif (Value.oneCell' x1) (newK H [x1] 189 (fun b1 H2 => B1 P x0 b1 H2)) False
theorem q2 P : Q o2 (E k0 (B1 P)) k1 (B2 P) := fun _ _ _ _ => by kernel_rfl
def code : Code := (.seq (R 0 o2) (.seq (R 1 o1) .ret))
theorem body : Tryz.f218.body = some code := by kernel_rfl
theorem main (P : PT) : ∀ env H, (En 9 k1 (B2 P)) env H → AW Tryz.prog T0 code env H (M (ret P)) :=
  (r_seq (b (q2 P)) (r_seq (b (q1 P)) r_ret))
theorem ac (P : PT) (x0 x1 : Value) (H : AHeap) (h : B2 P x0 x1 H) : AC Tryz.prog T0 218 [x0, x1] H P :=
  r_fn T0_ok (c := code) (n := 9) Tryz.func218 body (by kernel_rfl) (main P) (En_mk (x0, x1, ()) (by kernel_rfl) ⟨by kernel_rfl, by kernel_rfl, trivial⟩ h)

end F218
namespace F219
abbrev E := En 5
abbrev Q := QB Tryz.prog T0 5
def O (k : Nat) := ob Tryz.f219 (pth k)
def ret (P : PT) : EP := retE T0 5 Tryz.f219 P
abbrev k0 : Sk := [(0,J)]
def o1 := O 6
def B1 (P : PT) : Y k0 := fun x0 H =>
  P (Value.bool ((x0 : Int) == 3)) H
theorem q1 P : Q o1 (ret P) k0 (B1 P) := fun _ _ _ => by kernel_rfl
def o2 := O 2
def B2 (P : PT) : Y k0 := fun x0 H =>
  B1 P x0 H
theorem q2 P : Q o2 (E k0 (B1 P)) k0 (B2 P) := fun _ _ _ => by kernel_rfl
def code : Code := (.seq (R 0 o2) (.seq (R 1 o1) .ret))
theorem body : Tryz.f219.body = some code := by kernel_rfl
theorem main (P : PT) : ∀ env H, (En 5 k0 (B2 P)) env H → AW Tryz.prog T0 code env H (M (ret P)) :=
  (r_seq (b (q2 P)) (r_seq (b (q1 P)) r_ret))
theorem ac (P : PT) (x0 : Int) (H : AHeap) (h : B2 P x0 H) : AC Tryz.prog T0 219 [(Value.int .i64 x0)] H P :=
  r_fn T0_ok (c := code) (n := 5) Tryz.func219 body (by kernel_rfl) (main P) (En_mk (x0, ()) (by kernel_rfl) ⟨by kernel_rfl, trivial⟩ h)

end F219
namespace F220
abbrev E := En 19
abbrev Q := QB Tryz.prog T0 19
def O (k : Nat) := ob Tryz.f220 (pth k)
def ret (P : PT) : EP := retE T0 19 Tryz.f220 P
abbrev k0 : Sk := []
def o1 := O 14
def B1 (P : PT) : Y k0 := fun H =>
  P (Value.int .i64 (-1)) H
theorem q1 P : Q o1 (ret P) k0 (B1 P) := fun _ _ => by kernel_rfl
abbrev k1 : Sk := [(0,.v),(1,.v),(7,J),(8,J)]
def o3 := O 423
def B3 (P : PT) (N2 : Y k1) : Y k1 := fun x0 x1 x7 x8 H =>
  N2 x0 x1 x7 (IntKind.i64.wrap (x8 + 1)) H
theorem q3 P N2 : Q o3 (E k1 N2) k1 (B3 P N2) := fun _ _ _ _ _ _ => by kernel_rfl
abbrev k2 : Sk := [(5,J)]
def o4 := O 13516
def B4 (P : PT) (N2 : Y k1) : Y k2 := fun x5 H =>
  P (Value.int .i64 x5) H
theorem q4 P N2 : Q o4 (ret P) k2 (B4 P N2) := fun _ _ _ => by kernel_rfl
abbrev k3 : Sk := [(0,.v),(1,.v),(5,J),(7,J),(8,J)]
def o5 := O 3378
def B5 (P : PT) (N2 : Y k1) : Y k3 := fun x0 x1 x5 x7 x8 H =>
  idxK x0 x5 1 (fun b1 o2 => ldI .i64 H b1 o2 (fun v3 => callV Tryz.prog T0 x1 [(Value.int .i64 v3)] H (fun v4 H5 => asB v4 (fun v6 => pif v6 (B4 P N2 x5 H5) (B3 P N2 x0 x1 x7 x8 H5)))))
theorem q5 P N2 : Q o5 (cnd 16 (E k2 (B4 P N2)) (E k1 (B3 P N2))) k3 (B5 P N2) := fun _ _ _ _ _ _ _ => by kernel_rfl
def o6 := O 1688
def B6 (P : PT) (N2 : Y k1) : Y k1 := fun x0 x1 x7 x8 H =>
  B5 P N2 x0 x1 x8 x7 x8 H
theorem q6 P N2 : Q o6 (E k3 (B5 P N2)) k1 (B6 P N2) := fun _ _ _ _ _ _ => by kernel_rfl
def o7 := O 104
def B7 (P : PT) (N2 : Y k1) : Y k1 := fun x0 x1 x7 x8 H =>
  pif (decide ((x8 : Int) < x7)) (B6 P N2 x0 x1 x7 x8 H) (B1 P H)
theorem q7 P N2 : Q o7 (cnd 9 (E k1 (B6 P N2)) (E k0 (B1 P))) k1 (B7 P N2) := fun _ _ _ _ _ _ => by kernel_rfl
def L2 (P : PT) : Y k1 := fun x0 x1 x7 x8 H =>
  ∃ (I : Y k1) (μ : NTy k1 (AHeap → Nat)), I x0 x1 x7 x8 H ∧ ∀ y0 y1 y7 y8 G, I y0 y1 y7 y8 G → B7 P (fun z0 z1 z7 z8 G' => I z0 z1 z7 z8 G' ∧ μ z0 z1 z7 z8 G' < μ y0 y1 y7 y8 G) y0 y1 y7 y8 G
theorem l2 P : LQ k1 (L2 P) (B7 P) := fun ⟨_,_,_,_,_⟩ _ ⟨I, μ, h0, hI⟩ => ⟨apT _ I, apT _ μ, h0, fun ⟨_,_,_,_,_⟩ _ h => hI _ _ _ _ _  h⟩
abbrev k4 : Sk := [(0,.v),(1,.v)]
def o8 := O 12
def B8 (P : PT) : Y k4 := fun x0 x1 H =>
  lenK x0 (fun n1 => L2 P x0 x1 (n1 : Int) 0 H)
theorem q8 P : Q o8 (E k1 (L2 P)) k4 (B8 P) := fun _ _ _ _ => by kernel_rfl
def o9 := O 2
def B9 (P : PT) : Y k4 := fun x0 x1 H =>
  B8 P x0 x1 H
theorem q9 P : Q o9 (E k4 (B8 P)) k4 (B9 P) := fun _ _ _ _ => by kernel_rfl
def code : Code := (.seq (R 0 o9) (.seq (.seq (R 1 o8) (.block 0 (.loop (.seq (R 2 o7) (.seq (.cond (.tmp 9) .skip (.exit 0)) (.seq (.block 1 (.seq (R 3 o6) (.seq (R 4 o5) (.cond (.tmp 16) (.seq (R 5 o4) .ret) .skip)))) (R 6 o3))))))) (.seq (R 7 o1) .ret)))
theorem body : Tryz.f220.body = some code := by kernel_rfl
theorem main (P : PT) : ∀ env H, (En 19 k4 (B9 P)) env H → AW Tryz.prog T0 code env H (M (ret P)) :=
  (r_seq (b (q9 P)) (r_seq (r_seq (b (q8 P)) (r_block (rL (l2 P) (fun N2 => (r_seq (b (q7 P N2)) (r_seq (r_cond rfl r_skip (r_exit (fun _ _ h => h))) (r_seq (r_block (r_seq (b (q6 P N2)) (r_seq (b (q5 P N2)) (r_cond rfl (r_seq (b (q4 P N2)) r_ret) r_skip)))) (b (q3 P N2))))))))) (r_seq (b (q1 P)) r_ret)))
theorem ac (P : PT) (x0 x1 : Value) (H : AHeap) (h : B9 P x0 x1 H) : AC Tryz.prog T0 220 [x0, x1] H P :=
  r_fn T0_ok (c := code) (n := 19) Tryz.func220 body (by kernel_rfl) (main P) (En_mk (x0, x1, ()) (by kernel_rfl) ⟨by kernel_rfl, by kernel_rfl, trivial⟩ h)

end F220
namespace F221
abbrev E := En 30
abbrev Q := QB Tryz.prog T0 30
def O (k : Nat) := ob Tryz.f221 (pth k)
def ret (P : PT) : EP := retE T0 30 Tryz.f221 P
abbrev k0 : Sk := [(8,.i .u64),(9,.i .u64)]
def o1 := O 30
def B1 (P : PT) : Y k0 := fun x8 x9 H =>
  P (Value.tuple ⟨[(Value.int .u64 x8), (Value.int .u64 x9)]⟩) H
theorem q1 P : Q o1 (ret P) k0 (B1 P) := fun _ _ _ _ => by kernel_rfl
abbrev k1 : Sk := [(0,.i .u64),(1,.i .u64)]
def o2 := O 14
def B2 (P : PT) : Y k1 := fun x0 x1 H =>
  AC Tryz.prog T0 232 [(Value.int .u64 x0), (Value.int .u64 x1)] H (fun v1 H2 => tup2 v1 (fun v3 v4 => asI .u64 v3 (fun v5 => asI .u64 v4 (fun v6 => B1 P v5 v6 H2))))
theorem q2 P : Q o2 (E k0 (B1 P)) k1 (B2 P) := fun _ _ _ _ => by kernel_rfl
def o3 := O 2
def B3 (P : PT) : Y k1 := fun x0 x1 H =>
  B2 P x0 x1 H
theorem q3 P : Q o3 (E k1 (B2 P)) k1 (B3 P) := fun _ _ _ _ => by kernel_rfl
def code : Code := (.seq (R 0 o3) (.seq (.cond (.const (.bool false)) (codeAt (bodyOf Tryz.f221) [.r,.l,.l]) .skip) (.seq (R 3 o2) (.seq (R 4 o1) .ret))))
theorem body : Tryz.f221.body = some code := by kernel_rfl
theorem main (P : PT) : ∀ env H, (En 30 k1 (B3 P)) env H → AW Tryz.prog T0 code env H (M (ret P)) :=
  (r_seq (b (q3 P)) (r_seq (r_condF r_skip) (r_seq (b (q2 P)) (r_seq (b (q1 P)) r_ret))))
theorem ac (P : PT) (x0 x1 : Int) (H : AHeap) (h : B3 P x0 x1 H) : AC Tryz.prog T0 221 [(Value.int .u64 x0), (Value.int .u64 x1)] H P :=
  r_fn T0_ok (c := code) (n := 30) Tryz.func221 body (by kernel_rfl) (main P) (En_mk (x0, x1, ()) (by kernel_rfl) ⟨by kernel_rfl, by kernel_rfl, trivial⟩ h)

end F221
namespace F227
abbrev E := En 41
abbrev Q := QB Tryz.prog T0 41
def O (k : Nat) := ob Tryz.f227 (pth k)
def ret (P : PT) : EP := retE T0 41 Tryz.f227 P
abbrev k0 : Sk := [(0,.v),(1,J)]
def o1 := O 3
def B1 (P : PT) : Y k0 := fun x0 x1 H =>
  nilK x0 (fun v1 => asP v1 (fun b2 o3 => ld1 H b2 (o3 + 3) (fun v4 => idxK v4 x1 1 (fun b5 o6 => stK H b5 o6 [(Value.int .i64 (-1))] (fun H7 => P (Value.tuple ⟨[]⟩) H7)))))
theorem q1 P : Q o1 (ret P) k0 (B1 P) := fun _ _ _ _ => by kernel_rfl
abbrev k1 : Sk := [(0,.v),(1,J),(13,.g [.i,.i]),(14,J)]
def o3 := O 167
def B3 (P : PT) (N2 : Y k1) : Y k1 := fun x0 x1 x13a x13b x14 H =>
  N2 x0 x1 x13a x13b (IntKind.i64.wrap (x14 + 1)) H
theorem q3 P N2 : Q o3 (E k1 N2) k1 (B3 P N2) := fun _ _ _ _ _ _ _ => by kernel_rfl
abbrev k2 : Sk := [(0,.v),(1,J),(5,J),(13,.g [.i,.i]),(14,J)]
def o4 := O 665
def B4 (P : PT) (N2 : Y k1) : Y k2 := fun x0 x1 x5 x13a x13b x14 H =>
  nilK x0 (fun v1 => asP v1 (fun b2 o3 => ld1 H b2 (o3 + 4) (fun v4 => idxK v4 x5 1 (fun b5 o6 => ldI .u64 H b5 o6 (fun v7 => nilK x0 (fun v8 => asP v8 (fun b9 o10 => ld1 H b9 (o10 + 3) (fun v11 => idxK v11 x1 1 (fun b12 o13 => ldI .i64 H b12 o13 (fun v14 => ((0 : Int) ≤ v14) ∧ (idxK v4 x5 1 (fun b15 o16 => stK H b15 o16 [(Value.int .u64 (IntKind.u64.wrap (BitVec.ofInt 64 v7 &&& ~~~(BitVec.ofInt 64 (IntKind.u64.wrap (1 * 2 ^ (min (Int.toNat v14) 64))))).toNat))] (fun H17 => B3 P N2 x0 x1 x13a x13b x14 H17)))))))))))))
theorem q4 (P : PT) (N2 : Y k1) : QD Tryz.prog T0 41 o4 [(0, false), (1, false), (2, false), (3, false), (4, false), (5, false), (6, false), (7, false), (8, false), (9, false), (10, false), (11, false), (12, false), (13, false), (14, false), (15, false), (16, false), (17, false)] (En 41 k1 (B3 P N2)) k2 (B4 P N2) := fun _ _ _ _ _ _ _ _  => by kernel_rfl
def o5 := O 664
def B5 (P : PT) (N2 : Y k1) : Y k1 := fun x0 x1 x13a x13b x14 H =>
  bndK x14 2 (atK [(Value.int .i64 x13a), (Value.int .i64 x13b)] (Int.toNat x14 * 1) (fun v1 => asI .i64 v1 (fun v2 => B4 P N2 x0 x1 v2 x13a x13b x14 H)))
theorem q5 P N2 : Q o5 (E k2 (B4 P N2)) k1 (B5 P N2) := fun _ _ _ _ _ _ _ => by kernel_rfl
def o6 := O 40
def B6 (P : PT) (N2 : Y k1) : Y k1 := fun x0 x1 x13a x13b x14 H =>
  pif (decide ((x14 : Int) < 2)) (B5 P N2 x0 x1 x13a x13b x14 H) (B1 P x0 x1 H)
theorem q6 P N2 : Q o6 (cnd 15 (E k1 (B5 P N2)) (E k0 (B1 P))) k1 (B6 P N2) := fun _ _ _ _ _ _ _ => by kernel_rfl
def L2 (P : PT) : Y k1 := fun x0 x1 x13a x13b x14 H =>
  ∃ (I : Y k1) (μ : NTy k1 (AHeap → Nat)), I x0 x1 x13a x13b x14 H ∧ ∀ y0 y1 y13a y13b y14 G, I y0 y1 y13a y13b y14 G → B6 P (fun z0 z1 z13a z13b z14 G' => I z0 z1 z13a z13b z14 G' ∧ μ z0 z1 z13a z13b z14 G' < μ y0 y1 y13a y13b y14 G) y0 y1 y13a y13b y14 G
theorem l2 P : LQ k1 (L2 P) (B6 P) := fun ⟨_,_,_,_,_,_⟩ _ ⟨I, μ, h0, hI⟩ => ⟨apT _ I, apT _ μ, h0, fun ⟨_,_,_,_,_,_⟩ _ h => hI _ _ _ _ _ _  h⟩
def o7 := O 4
def B7 (P : PT) : Y k0 := fun x0 x1 H =>
  nilK x0 (fun v1 => asP v1 (fun b2 o3 => ld1 H b2 (o3 + 1) (fun v4 => idxK v4 x1 2 (fun b5 o6 => ldI .i64 H b5 o6 (fun v7 => ldI .i64 H b5 (o6 + 1) (fun v8 => L2 P x0 x1 v7 v8 0 H))))))
theorem q7 P : Q o7 (E k1 (L2 P)) k0 (B7 P) := fun _ _ _ _ => by kernel_rfl
def code : Code := (.seq (.seq (R 0 o7) (.block 0 (.loop (.seq (R 1 o6) (.seq (.cond (.tmp 15) .skip (.exit 0)) (.seq (.block 1 (.seq (R 2 o5) (.region 3 ⟨o4⟩ true))) (R 4 o3))))))) (R 5 o1))
theorem body : Tryz.f227.body = some code := by kernel_rfl
theorem main (P : PT) : ∀ env H, (En 41 k0 (B7 P)) env H → AW Tryz.prog T0 code env H (M (ret P)) :=
  (r_seq (r_seq (b (q7 P)) (r_block (rL (l2 P) (fun N2 => (r_seq (b (q6 P N2)) (r_seq (r_cond rfl r_skip (r_exit (fun _ _ h => h))) (r_seq (r_block (r_seq (b (q5 P N2)) (rD T0_ok mixed [(0, false), (1, false), (2, false), (3, false), (4, false), (5, false), (6, false), (7, false), (8, false), (9, false), (10, false), (11, false), (12, false), (13, false), (14, false), (15, false), (16, false), (17, false)] (by kernel_rfl) (q4 P N2)))) (b (q3 P N2))))))))) (b (q1 P)))
theorem ac (P : PT) (x0 : Value) (x1 : Int) (H : AHeap) (h : B7 P x0 x1 H) : AC Tryz.prog T0 227 [x0, (Value.int .i64 x1)] H P :=
  r_fn T0_ok (c := code) (n := 41) Tryz.func227 body (by kernel_rfl) (main P) (En_mk (x0, x1, ()) (by kernel_rfl) ⟨by kernel_rfl, by kernel_rfl, trivial⟩ h)

end F227
namespace F228
abbrev E := En 19
abbrev Q := QB Tryz.prog T0 19
def O (k : Nat) := ob Tryz.f228 (pth k)
def ret (P : PT) : EP := retE T0 19 Tryz.f228 P
abbrev k0 : Sk := []
def o1 := O 14
def B1 (P : PT) : Y k0 := fun H =>
  P (Value.int .i64 (-1)) H
theorem q1 P : Q o1 (ret P) k0 (B1 P) := fun _ _ => by kernel_rfl
abbrev k1 : Sk := [(0,.v),(1,.v),(7,J),(8,J)]
def o3 := O 423
def B3 (P : PT) (N2 : Y k1) : Y k1 := fun x0 x1 x7 x8 H =>
  N2 x0 x1 x7 (IntKind.i64.wrap (x8 + 1)) H
theorem q3 P N2 : Q o3 (E k1 N2) k1 (B3 P N2) := fun _ _ _ _ _ _ => by kernel_rfl
abbrev k2 : Sk := [(5,J)]
def o4 := O 13516
def B4 (P : PT) (N2 : Y k1) : Y k2 := fun x5 H =>
  P (Value.int .i64 x5) H
theorem q4 P N2 : Q o4 (ret P) k2 (B4 P N2) := fun _ _ _ => by kernel_rfl
abbrev k3 : Sk := [(0,.v),(1,.v),(5,J),(7,J),(8,J)]
def o5 := O 3378
def B5 (P : PT) (N2 : Y k1) : Y k3 := fun x0 x1 x5 x7 x8 H =>
  idxK x0 x5 2 (fun b1 o2 => ldI .i64 H b1 o2 (fun v3 => ldI .i64 H b1 (o2 + 1) (fun v4 => callV Tryz.prog T0 x1 [(Value.agg ⟨[(Value.int .i64 v3), (Value.int .i64 v4)]⟩)] H (fun v5 H6 => asB v5 (fun v7 => pif v7 (B4 P N2 x5 H6) (B3 P N2 x0 x1 x7 x8 H6))))))
theorem q5 P N2 : Q o5 (cnd 16 (E k2 (B4 P N2)) (E k1 (B3 P N2))) k3 (B5 P N2) := fun _ _ _ _ _ _ _ => by kernel_rfl
def o6 := O 1688
def B6 (P : PT) (N2 : Y k1) : Y k1 := fun x0 x1 x7 x8 H =>
  B5 P N2 x0 x1 x8 x7 x8 H
theorem q6 P N2 : Q o6 (E k3 (B5 P N2)) k1 (B6 P N2) := fun _ _ _ _ _ _ => by kernel_rfl
def o7 := O 104
def B7 (P : PT) (N2 : Y k1) : Y k1 := fun x0 x1 x7 x8 H =>
  pif (decide ((x8 : Int) < x7)) (B6 P N2 x0 x1 x7 x8 H) (B1 P H)
theorem q7 P N2 : Q o7 (cnd 9 (E k1 (B6 P N2)) (E k0 (B1 P))) k1 (B7 P N2) := fun _ _ _ _ _ _ => by kernel_rfl
def L2 (P : PT) : Y k1 := fun x0 x1 x7 x8 H =>
  ∃ (I : Y k1) (μ : NTy k1 (AHeap → Nat)), I x0 x1 x7 x8 H ∧ ∀ y0 y1 y7 y8 G, I y0 y1 y7 y8 G → B7 P (fun z0 z1 z7 z8 G' => I z0 z1 z7 z8 G' ∧ μ z0 z1 z7 z8 G' < μ y0 y1 y7 y8 G) y0 y1 y7 y8 G
theorem l2 P : LQ k1 (L2 P) (B7 P) := fun ⟨_,_,_,_,_⟩ _ ⟨I, μ, h0, hI⟩ => ⟨apT _ I, apT _ μ, h0, fun ⟨_,_,_,_,_⟩ _ h => hI _ _ _ _ _  h⟩
abbrev k4 : Sk := [(0,.v),(1,.v)]
def o8 := O 12
def B8 (P : PT) : Y k4 := fun x0 x1 H =>
  lenK x0 (fun n1 => L2 P x0 x1 (n1 : Int) 0 H)
theorem q8 P : Q o8 (E k1 (L2 P)) k4 (B8 P) := fun _ _ _ _ => by kernel_rfl
def o9 := O 2
def B9 (P : PT) : Y k4 := fun x0 x1 H =>
  B8 P x0 x1 H
theorem q9 P : Q o9 (E k4 (B8 P)) k4 (B9 P) := fun _ _ _ _ => by kernel_rfl
def code : Code := (.seq (R 0 o9) (.seq (.seq (R 1 o8) (.block 0 (.loop (.seq (R 2 o7) (.seq (.cond (.tmp 9) .skip (.exit 0)) (.seq (.block 1 (.seq (R 3 o6) (.seq (R 4 o5) (.cond (.tmp 16) (.seq (R 5 o4) .ret) .skip)))) (R 6 o3))))))) (.seq (R 7 o1) .ret)))
theorem body : Tryz.f228.body = some code := by kernel_rfl
theorem main (P : PT) : ∀ env H, (En 19 k4 (B9 P)) env H → AW Tryz.prog T0 code env H (M (ret P)) :=
  (r_seq (b (q9 P)) (r_seq (r_seq (b (q8 P)) (r_block (rL (l2 P) (fun N2 => (r_seq (b (q7 P N2)) (r_seq (r_cond rfl r_skip (r_exit (fun _ _ h => h))) (r_seq (r_block (r_seq (b (q6 P N2)) (r_seq (b (q5 P N2)) (r_cond rfl (r_seq (b (q4 P N2)) r_ret) r_skip)))) (b (q3 P N2))))))))) (r_seq (b (q1 P)) r_ret)))
theorem ac (P : PT) (x0 x1 : Value) (H : AHeap) (h : B9 P x0 x1 H) : AC Tryz.prog T0 228 [x0, x1] H P :=
  r_fn T0_ok (c := code) (n := 19) Tryz.func228 body (by kernel_rfl) (main P) (En_mk (x0, x1, ()) (by kernel_rfl) ⟨by kernel_rfl, by kernel_rfl, trivial⟩ h)

end F228
namespace F229
abbrev E := En 9
abbrev Q := QB Tryz.prog T0 9
def O (k : Nat) := ob Tryz.f229 (pth k)
def ret (P : PT) : EP := retE T0 9 Tryz.f229 P
abbrev k0 : Sk := [(0,.v),(1,.v)]
def o1 := O 6
def B1 (P : PT) : Y k0 := fun x0 x1 H =>
  AC Tryz.prog T0 234 [x0, x1] H (fun v1 H2 => asI .i64 v1 (fun v3 => P (Value.bool (decide ((v3 : Int) ≥ 0))) H2))
theorem q1 P : Q o1 (ret P) k0 (B1 P) := fun _ _ _ _ => by kernel_rfl
def o2 := O 2
def B2 (P : PT) : Y k0 := fun x0 x1 H =>
  B1 P x0 x1 H
theorem q2 P : Q o2 (E k0 (B1 P)) k0 (B2 P) := fun _ _ _ _ => by kernel_rfl
def code : Code := (.seq (R 0 o2) (.seq (R 1 o1) .ret))
theorem body : Tryz.f229.body = some code := by kernel_rfl
theorem main (P : PT) : ∀ env H, (En 9 k0 (B2 P)) env H → AW Tryz.prog T0 code env H (M (ret P)) :=
  (r_seq (b (q2 P)) (r_seq (b (q1 P)) r_ret))
theorem ac (P : PT) (x0 x1 : Value) (H : AHeap) (h : B2 P x0 x1 H) : AC Tryz.prog T0 229 [x0, x1] H P :=
  r_fn T0_ok (c := code) (n := 9) Tryz.func229 body (by kernel_rfl) (main P) (En_mk (x0, x1, ()) (by kernel_rfl) ⟨by kernel_rfl, by kernel_rfl, trivial⟩ h)

end F229
namespace F230
abbrev E := En 8
abbrev Q := QB Tryz.prog T0 8
def O (k : Nat) := ob Tryz.f230 (pth k)
def ret (P : PT) : EP := retE T0 8 Tryz.f230 P
abbrev k0 : Sk := [(0,J),(1,.v)]
def o1 := O 6
def B1 (P : PT) : Y k0 := fun x0 x1 H =>
  asP x1 (fun b1 o2 => ld1 H b1 o2 (fun v3 => callV Tryz.prog T0 v3 [(Value.int .i64 x0)] H (fun v4 H5 => asB v4 (fun v6 => P (Value.bool (!v6)) H5))))
theorem q1 P : Q o1 (ret P) k0 (B1 P) := fun _ _ _ _ => by kernel_rfl
def o2 := O 2
def B2 (P : PT) : Y k0 := fun x0 x1 H =>
  B1 P x0 x1 H
theorem q2 P : Q o2 (E k0 (B1 P)) k0 (B2 P) := fun _ _ _ _ => by kernel_rfl
def code : Code := (.seq (R 0 o2) (.seq (R 1 o1) .ret))
theorem body : Tryz.f230.body = some code := by kernel_rfl
theorem main (P : PT) : ∀ env H, (En 8 k0 (B2 P)) env H → AW Tryz.prog T0 code env H (M (ret P)) :=
  (r_seq (b (q2 P)) (r_seq (b (q1 P)) r_ret))
theorem ac (P : PT) (x0 : Int) (x1 : Value) (H : AHeap) (h : B2 P x0 x1 H) : AC Tryz.prog T0 230 [(Value.int .i64 x0), x1] H P :=
  r_fn T0_ok (c := code) (n := 8) Tryz.func230 body (by kernel_rfl) (main P) (En_mk (x0, x1, ()) (by kernel_rfl) ⟨by kernel_rfl, by kernel_rfl, trivial⟩ h)

end F230
namespace F232
abbrev E := En 51
abbrev Q := QB Tryz.prog T0 51
def O (k : Nat) := ob Tryz.f232 (pth k)
def ret (P : PT) : EP := retE T0 51 Tryz.f232 P
abbrev k0 : Sk := [(0,.i .u64),(1,.i .u64),(4,.i .u64)]
def o1 := O 8190
def B1 (P : PT) : Y k0 := fun x0 x1 x4 H =>
  P (Value.tuple ⟨[(Value.int .u64 x4), (Value.int .u64 (IntKind.u64.wrap (x0 * x1)))]⟩) H
theorem q1 P : Q o1 (ret P) k0 (B1 P) := fun _ _ _ _ _ => by kernel_rfl
abbrev k1 : Sk := [(0,.i .u64),(1,.i .u64),(7,.i .u64),(9,.i .u64),(12,.i .u64),(13,.i .u64)]
def o2 := O 4094
def B2 (P : PT) : Y k1 := fun x0 x1 x7 x9 x12 x13 H =>
  ((0 : Int) ≤ 32) ∧ (B1 P x0 x1 (IntKind.u64.wrap ((IntKind.u64.wrap ((IntKind.u64.wrap (x7 * x9)) + x13)) + (Int.fdiv x12 (2 ^ (min (Int.toNat 32) 64))))) H)
theorem q2 P : Q o2 (E k0 (B1 P)) k1 (B2 P) := fun _ _ _ _ _ _ _ _ => by kernel_rfl
abbrev k2 : Sk := [(0,.i .u64),(1,.i .u64),(6,.i .u64),(7,.i .u64),(9,.i .u64),(12,.i .u64),(13,.i .u64)]
def o3 := O 2046
def B3 (P : PT) : Y k2 := fun x0 x1 x6 x7 x9 x12 x13 H =>
  B2 P x0 x1 x7 x9 (IntKind.u64.wrap (x12 + (IntKind.u64.wrap (x6 * x9)))) x13 H
theorem q3 P : Q o3 (E k1 (B2 P)) k2 (B3 P) := fun _ _ _ _ _ _ _ _ _ => by kernel_rfl
abbrev k3 : Sk := [(0,.i .u64),(1,.i .u64),(6,.i .u64),(7,.i .u64),(9,.i .u64),(11,.i .u64),(12,.i .u64)]
def o4 := O 1022
def B4 (P : PT) : Y k3 := fun x0 x1 x6 x7 x9 x11 x12 H =>
  ((0 : Int) ≤ 32) ∧ (B3 P x0 x1 x6 x7 x9 x12 (Int.fdiv x11 (2 ^ (min (Int.toNat 32) 64))) H)
theorem q4 P : Q o4 (E k2 (B3 P)) k3 (B4 P) := fun _ _ _ _ _ _ _ _ _ => by kernel_rfl
abbrev k4 : Sk := [(0,.i .u64),(1,.i .u64),(6,.i .u64),(7,.i .u64),(9,.i .u64),(11,.i .u64)]
def o5 := O 510
def B5 (P : PT) : Y k4 := fun x0 x1 x6 x7 x9 x11 H =>
  B4 P x0 x1 x6 x7 x9 x11 (IntKind.u64.wrap (BitVec.ofInt 64 x11 &&& BitVec.ofInt 64 4294967295).toNat) H
theorem q5 P : Q o5 (E k3 (B4 P)) k4 (B5 P) := fun _ _ _ _ _ _ _ _ => by kernel_rfl
abbrev k5 : Sk := [(0,.i .u64),(1,.i .u64),(6,.i .u64),(7,.i .u64),(8,.i .u64),(9,.i .u64),(10,.i .u64)]
def o6 := O 254
def B6 (P : PT) : Y k5 := fun x0 x1 x6 x7 x8 x9 x10 H =>
  ((0 : Int) ≤ 32) ∧ (B5 P x0 x1 x6 x7 x9 (IntKind.u64.wrap ((IntKind.u64.wrap (x7 * x8)) + (Int.fdiv x10 (2 ^ (min (Int.toNat 32) 64))))) H)
theorem q6 P : Q o6 (E k4 (B5 P)) k5 (B6 P) := fun _ _ _ _ _ _ _ _ _ => by kernel_rfl
abbrev k6 : Sk := [(0,.i .u64),(1,.i .u64),(6,.i .u64),(7,.i .u64),(8,.i .u64),(9,.i .u64)]
def o7 := O 126
def B7 (P : PT) : Y k6 := fun x0 x1 x6 x7 x8 x9 H =>
  B6 P x0 x1 x6 x7 x8 x9 (IntKind.u64.wrap (x6 * x8)) H
theorem q7 P : Q o7 (E k5 (B6 P)) k6 (B7 P) := fun _ _ _ _ _ _ _ _ => by kernel_rfl
abbrev k7 : Sk := [(0,.i .u64),(1,.i .u64),(6,.i .u64),(7,.i .u64),(8,.i .u64)]
def o8 := O 62
def B8 (P : PT) : Y k7 := fun x0 x1 x6 x7 x8 H =>
  ((0 : Int) ≤ 32) ∧ (B7 P x0 x1 x6 x7 x8 (Int.fdiv x1 (2 ^ (min (Int.toNat 32) 64))) H)
theorem q8 P : Q o8 (E k6 (B7 P)) k7 (B8 P) := fun _ _ _ _ _ _ _ => by kernel_rfl
abbrev k8 : Sk := [(0,.i .u64),(1,.i .u64),(6,.i .u64),(7,.i .u64)]
def o9 := O 30
def B9 (P : PT) : Y k8 := fun x0 x1 x6 x7 H =>
  B8 P x0 x1 x6 x7 (IntKind.u64.wrap (BitVec.ofInt 64 x1 &&& BitVec.ofInt 64 4294967295).toNat) H
theorem q9 P : Q o9 (E k7 (B8 P)) k8 (B9 P) := fun _ _ _ _ _ _ => by kernel_rfl
abbrev k9 : Sk := [(0,.i .u64),(1,.i .u64),(6,.i .u64)]
def o10 := O 14
def B10 (P : PT) : Y k9 := fun x0 x1 x6 H =>
  ((0 : Int) ≤ 32) ∧ (B9 P x0 x1 x6 (Int.fdiv x0 (2 ^ (min (Int.toNat 32) 64))) H)
theorem q10 P : Q o10 (E k8 (B9 P)) k9 (B10 P) := fun _ _ _ _ _ => by kernel_rfl
abbrev k10 : Sk := [(0,.i .u64),(1,.i .u64)]
def o11 := O 6
def B11 (P : PT) : Y k10 := fun x0 x1 H =>
  B10 P x0 x1 (IntKind.u64.wrap (BitVec.ofInt 64 x0 &&& BitVec.ofInt 64 4294967295).toNat) H
theorem q11 P : Q o11 (E k9 (B10 P)) k10 (B11 P) := fun _ _ _ _ => by kernel_rfl
def o12 := O 2
def B12 (P : PT) : Y k10 := fun x0 x1 H =>
  B11 P x0 x1 H
theorem q12 P : Q o12 (E k10 (B11 P)) k10 (B12 P) := fun _ _ _ _ => by kernel_rfl
def code : Code := (.seq (R 0 o12) (.seq (R 1 o11) (.seq (R 2 o10) (.seq (R 3 o9) (.seq (R 4 o8) (.seq (R 5 o7) (.seq (R 6 o6) (.seq (R 7 o5) (.seq (R 8 o4) (.seq (R 9 o3) (.seq (R 10 o2) (.seq (R 11 o1) .ret))))))))))))
theorem body : Tryz.f232.body = some code := by kernel_rfl
theorem main (P : PT) : ∀ env H, (En 51 k10 (B12 P)) env H → AW Tryz.prog T0 code env H (M (ret P)) :=
  (r_seq (b (q12 P)) (r_seq (b (q11 P)) (r_seq (b (q10 P)) (r_seq (b (q9 P)) (r_seq (b (q8 P)) (r_seq (b (q7 P)) (r_seq (b (q6 P)) (r_seq (b (q5 P)) (r_seq (b (q4 P)) (r_seq (b (q3 P)) (r_seq (b (q2 P)) (r_seq (b (q1 P)) r_ret))))))))))))
theorem ac (P : PT) (x0 x1 : Int) (H : AHeap) (h : B12 P x0 x1 H) : AC Tryz.prog T0 232 [(Value.int .u64 x0), (Value.int .u64 x1)] H P :=
  r_fn T0_ok (c := code) (n := 51) Tryz.func232 body (by kernel_rfl) (main P) (En_mk (x0, x1, ()) (by kernel_rfl) ⟨by kernel_rfl, by kernel_rfl, trivial⟩ h)

end F232
namespace F234
abbrev E := En 19
abbrev Q := QB Tryz.prog T0 19
def O (k : Nat) := ob Tryz.f234 (pth k)
def ret (P : PT) : EP := retE T0 19 Tryz.f234 P
abbrev k0 : Sk := []
def o1 := O 14
def B1 (P : PT) : Y k0 := fun H =>
  P (Value.int .i64 (-1)) H
theorem q1 P : Q o1 (ret P) k0 (B1 P) := fun _ _ => by kernel_rfl
abbrev k1 : Sk := [(0,.v),(1,.v),(7,J),(8,J)]
def o3 := O 423
def B3 (P : PT) (N2 : Y k1) : Y k1 := fun x0 x1 x7 x8 H =>
  N2 x0 x1 x7 (IntKind.i64.wrap (x8 + 1)) H
theorem q3 P N2 : Q o3 (E k1 N2) k1 (B3 P N2) := fun _ _ _ _ _ _ => by kernel_rfl
abbrev k2 : Sk := [(5,J)]
def o4 := O 13516
def B4 (P : PT) (N2 : Y k1) : Y k2 := fun x5 H =>
  P (Value.int .i64 x5) H
theorem q4 P N2 : Q o4 (ret P) k2 (B4 P N2) := fun _ _ _ => by kernel_rfl
abbrev k3 : Sk := [(0,.v),(1,.v),(5,J),(7,J),(8,J)]
def o5 := O 3378
def B5 (P : PT) (N2 : Y k1) : Y k3 := fun x0 x1 x5 x7 x8 H =>
  idxK x0 x5 1 (fun b1 o2 => ldI .i64 H b1 o2 (fun v3 => callV Tryz.prog T0 x1 [(Value.int .i64 v3)] H (fun v4 H5 => asB v4 (fun v6 => pif v6 (B4 P N2 x5 H5) (B3 P N2 x0 x1 x7 x8 H5)))))
theorem q5 P N2 : Q o5 (cnd 16 (E k2 (B4 P N2)) (E k1 (B3 P N2))) k3 (B5 P N2) := fun _ _ _ _ _ _ _ => by kernel_rfl
def o6 := O 1688
def B6 (P : PT) (N2 : Y k1) : Y k1 := fun x0 x1 x7 x8 H =>
  B5 P N2 x0 x1 x8 x7 x8 H
theorem q6 P N2 : Q o6 (E k3 (B5 P N2)) k1 (B6 P N2) := fun _ _ _ _ _ _ => by kernel_rfl
def o7 := O 104
def B7 (P : PT) (N2 : Y k1) : Y k1 := fun x0 x1 x7 x8 H =>
  pif (decide ((x8 : Int) < x7)) (B6 P N2 x0 x1 x7 x8 H) (B1 P H)
theorem q7 P N2 : Q o7 (cnd 9 (E k1 (B6 P N2)) (E k0 (B1 P))) k1 (B7 P N2) := fun _ _ _ _ _ _ => by kernel_rfl
def L2 (P : PT) : Y k1 := fun x0 x1 x7 x8 H =>
  ∃ (I : Y k1) (μ : NTy k1 (AHeap → Nat)), I x0 x1 x7 x8 H ∧ ∀ y0 y1 y7 y8 G, I y0 y1 y7 y8 G → B7 P (fun z0 z1 z7 z8 G' => I z0 z1 z7 z8 G' ∧ μ z0 z1 z7 z8 G' < μ y0 y1 y7 y8 G) y0 y1 y7 y8 G
theorem l2 P : LQ k1 (L2 P) (B7 P) := fun ⟨_,_,_,_,_⟩ _ ⟨I, μ, h0, hI⟩ => ⟨apT _ I, apT _ μ, h0, fun ⟨_,_,_,_,_⟩ _ h => hI _ _ _ _ _  h⟩
abbrev k4 : Sk := [(0,.v),(1,.v)]
def o8 := O 12
def B8 (P : PT) : Y k4 := fun x0 x1 H =>
  lenK x0 (fun n1 => L2 P x0 x1 (n1 : Int) 0 H)
theorem q8 P : Q o8 (E k1 (L2 P)) k4 (B8 P) := fun _ _ _ _ => by kernel_rfl
def o9 := O 2
def B9 (P : PT) : Y k4 := fun x0 x1 H =>
  B8 P x0 x1 H
theorem q9 P : Q o9 (E k4 (B8 P)) k4 (B9 P) := fun _ _ _ _ => by kernel_rfl
def code : Code := (.seq (R 0 o9) (.seq (.seq (R 1 o8) (.block 0 (.loop (.seq (R 2 o7) (.seq (.cond (.tmp 9) .skip (.exit 0)) (.seq (.block 1 (.seq (R 3 o6) (.seq (R 4 o5) (.cond (.tmp 16) (.seq (R 5 o4) .ret) .skip)))) (R 6 o3))))))) (.seq (R 7 o1) .ret)))
theorem body : Tryz.f234.body = some code := by kernel_rfl
theorem main (P : PT) : ∀ env H, (En 19 k4 (B9 P)) env H → AW Tryz.prog T0 code env H (M (ret P)) :=
  (r_seq (b (q9 P)) (r_seq (r_seq (b (q8 P)) (r_block (rL (l2 P) (fun N2 => (r_seq (b (q7 P N2)) (r_seq (r_cond rfl r_skip (r_exit (fun _ _ h => h))) (r_seq (r_block (r_seq (b (q6 P N2)) (r_seq (b (q5 P N2)) (r_cond rfl (r_seq (b (q4 P N2)) r_ret) r_skip)))) (b (q3 P N2))))))))) (r_seq (b (q1 P)) r_ret)))
theorem ac (P : PT) (x0 x1 : Value) (H : AHeap) (h : B9 P x0 x1 H) : AC Tryz.prog T0 234 [x0, x1] H P :=
  r_fn T0_ok (c := code) (n := 19) Tryz.func234 body (by kernel_rfl) (main P) (En_mk (x0, x1, ()) (by kernel_rfl) ⟨by kernel_rfl, by kernel_rfl, trivial⟩ h)

end F234
end
end Go.Proofs
