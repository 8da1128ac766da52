import Derived.Test.YtkmjiikgkhhciaaGreatX29S
set_option linter.unusedVariables false
set_option maxRecDepth 100000
namespace Go.Proofs
open Go.Abs
noncomputable section
namespace F6
abbrev E := En 290
abbrev Q := QB Tryz.prog T0 290
def O (k : Nat) := ob Tryz.f6 (pth k)
def ret (P : PT) : EP := retE T0 290 Tryz.f6 P
abbrev k0 : Sk := [(4,.v),(5,J),(11,.v),(12,J),(37,.b),(38,J),(39,.v),(40,J)]
def o1 := O 16777214
def B1 (P : PT) : Y k0 := fun x4 x5 x11 x12 x37 x38 x39 x40 H =>
  pif ((x12 : Int) == 0) (AC Tryz.prog T0 64 [x11, (Value.int .i64 x5)] H (fun v1 H2 => asB v1 (fun v3 => pif v3 (lenK x11 (fun n4 => pif ((Int.tmod (n4 : Int) 2 : Int) == 0) (pif ((x38 : Int) == 0) (pif x37 (pif ((x40 : Int) == 0) (AC Tryz.prog T0 11 [x39, x4] H2 (fun v5 H6 => asB v5 (fun v7 => P (Value.bool v7) H6))) (P (Value.bool false) H2)) (P (Value.bool false) H2)) (P (Value.bool false) H2)) (P (Value.bool false) H2))) (P (Value.bool false) H2)))) (P (Value.bool false) H)
theorem q1 P : Q o1 (ret P) k0 (B1 P) := fun _ _ _ _ _ _ _ _ _ _ => by kernel_rfl
abbrev k1 : Sk := [(3,.x),(4,.v),(5,J),(7,.v),(11,.v),(12,J),(37,.b),(38,J)]
def o2 := O 8388606
def B2 (P : PT) : Y k1 := fun x3 x4 x5 x7 x11 x12 x37 x38 H =>
  ldI .i64 H x3 0 (fun v1 => ld1 H x3 1 (fun v2 => idxK x4 x5 1 (fun b3 o4 => ldI .i64 H b3 o4 (fun v5 => AC Tryz.prog T0 49 [(Value.agg ⟨[(Value.int .i64 v1), v2]⟩), x7, (Value.int .i64 x5), (Value.int .i64 v5)] H (fun v6 H7 => tup2 v6 (fun v8 v9 => asI .i64 v9 (fun v11 => B1 P x4 x5 x11 x12 x37 x38 v8 v11 H7)))))))
theorem q2 (P : PT) : QD Tryz.prog T0 290 o2 [(0, false), (1, false), (2, false), (3, false), (4, false), (5, false), (6, false), (7, false), (8, false), (9, false), (10, false), (11, false), (12, false)] (En 290 k0 (B1 P)) k1 (B2 P) := fun _ _ _ _ _ _ _ _ _ _  => by kernel_rfl
abbrev k2 : Sk := [(3,.x),(4,.v),(5,J),(7,.v),(11,.v),(12,J)]
def o3 := O 4194302
def B3 (P : PT) : Y k2 := fun x3 x4 x5 x7 x11 x12 H =>
  ldI .i64 H x3 0 (fun v1 => ld1 H x3 1 (fun v2 => AC Tryz.prog T0 63 [(Value.agg ⟨[(Value.int .i64 v1), v2]⟩), x7] H (fun v3 H4 => tup2 v3 (fun v5 v6 => asB v5 (fun v7 => asI .i64 v6 (fun v8 => B2 P x3 x4 x5 x7 x11 x12 v7 v8 H4))))))
theorem q3 P : Q o3 (E k1 (B2 P)) k2 (B3 P) := fun _ _ _ _ _ _ _ _ => by kernel_rfl
abbrev k3 : Sk := [(7,.v),(8,J),(12,J)]
def o4 := O 16777204
def B4 (P : PT) : Y k3 := fun x7 x8 x12 H =>
  lenK x7 (fun n1 => pif (((n1 : Int) : Int) == 0) (P (Value.bool ((x12 : Int) == x8)) H) (P (Value.bool false) H))
theorem q4 P : Q o4 (ret P) k3 (B4 P) := fun _ _ _ _ _ => by kernel_rfl
abbrev k4 : Sk := [(3,.x),(4,.v),(5,J),(7,.v),(8,J),(11,.v),(12,J)]
def o5 := O 4194300
def B5 (P : PT) : Y k4 := fun x3 x4 x5 x7 x8 x11 x12 H =>
  pif ((x8 : Int) != 0) (B4 P x7 x8 x12 H) (B3 P x3 x4 x5 x7 x11 x12 H)
theorem q5 P : Q o5 (cnd 235 (E k3 (B4 P)) (E k2 (B3 P))) k4 (B5 P) := fun _ _ _ _ _ _ _ _ _ => by kernel_rfl
abbrev k5 : Sk := []
def o6 := O 8388596
def B6 (P : PT) : Y k5 := fun H =>
  P (Value.bool false) H
theorem q6 P : Q o6 (ret P) k5 (B6 P) := fun _ _ => by kernel_rfl
abbrev k6 : Sk := [(3,.x),(4,.v),(5,J),(7,.v),(8,J),(11,.v),(12,J),(17,.v),(18,J)]
def o7 := O 2097148
def B7 (P : PT) : Y k6 := fun x3 x4 x5 x7 x8 x11 x12 x17 x18 H =>
  pif ((x18 : Int) == 0) (idxK x17 0 1 (fun b1 o2 => ldI .i64 H b1 o2 (fun v3 => pif (decide ((v3 : Int) < 1)) (B6 P H) (idxK x17 1 1 (fun b4 o5 => ldI .i64 H b4 o5 (fun v6 => pif (decide ((v6 : Int) < 1)) (B6 P H) (idxK x17 2 1 (fun b7 o8 => ldI .i64 H b7 o8 (fun v9 => pif (decide ((v9 : Int) < 1)) (B6 P H) (B5 P x3 x4 x5 x7 x8 x11 x12 H)))))))))) (B5 P x3 x4 x5 x7 x8 x11 x12 H)
theorem q7 P : Q o7 (cnd 233 (E k5 (B6 P)) (E k4 (B5 P))) k6 (B7 P) := fun _ _ _ _ _ _ _ _ _ _ _ => by kernel_rfl
def o8 := O 33554348
def B8 (P : PT) : Y k5 := fun H =>
  P (Value.bool false) H
theorem q8 P : Q o8 (ret P) k5 (B8 P) := fun _ _ => by kernel_rfl
abbrev k7 : Sk := [(3,.x),(4,.v),(5,J),(7,.v),(8,J),(11,.v),(12,J),(17,.v),(18,J),(23,J),(35,J),(36,J)]
def o9 := O 8388586
def B9 (P : PT) : Y k7 := fun x3 x4 x5 x7 x8 x11 x12 x17 x18 x23 x35 x36 H =>
  pif ((x36 : Int) != 0) (B8 P H) (pif (decide ((x23 : Int) > x35)) (B8 P H) (pif ((Int.tmod x23 6 : Int) != 0) (B8 P H) (B7 P x3 x4 x5 x7 x8 x11 x12 x17 x18 H)))
theorem q9 P : Q o9 (cnd 213 (E k5 (B8 P)) (E k6 (B7 P))) k7 (B9 P) := fun _ _ _ _ _ _ _ _ _ _ _ _ _ _ => by kernel_rfl
abbrev k8 : Sk := [(3,.x),(4,.v),(5,J),(7,.v),(8,J),(11,.v),(12,J),(17,.v),(18,J),(21,.x),(23,J)]
def o10 := O 4194292
def B10 (P : PT) : Y k8 := fun x3 x4 x5 x7 x8 x11 x12 x17 x18 x21 x23 H =>
  ldI .i64 H x21 0 (fun v1 => ld1 H x21 1 (fun v2 => AC Tryz.prog T0 62 [(Value.agg ⟨[(Value.int .i64 v1), v2]⟩)] H (fun v3 H4 => tup2 v3 (fun v5 v6 => asI .i64 v5 (fun v7 => asI .i64 v6 (fun v8 => B9 P x3 x4 x5 x7 x8 x11 x12 x17 x18 x23 v7 v8 H4))))))
theorem q10 P : Q o10 (E k7 (B9 P)) k8 (B10 P) := fun _ _ _ _ _ _ _ _ _ _ _ _ _ => by kernel_rfl
abbrev k9 : Sk := [(3,.x),(4,.v),(5,J),(7,.v),(8,J),(11,.v),(12,J),(17,.v),(18,J),(21,.x),(23,J),(24,J)]
def o11 := O 1048572
def B11 (P : PT) : Y k9 := fun x3 x4 x5 x7 x8 x11 x12 x17 x18 x21 x23 x24 H =>
  pif ((x24 : Int) == 0) (B10 P x3 x4 x5 x7 x8 x11 x12 x17 x18 x21 x23 H) (B7 P x3 x4 x5 x7 x8 x11 x12 x17 x18 H)
theorem q11 P : Q o11 (cnd 196 (E k8 (B10 P)) (E k6 (B7 P))) k9 (B11 P) := fun _ _ _ _ _ _ _ _ _ _ _ _ _ _ => by kernel_rfl
abbrev k10 : Sk := [(3,.x),(4,.v),(5,J),(7,.v),(8,J),(11,.v),(12,J),(17,.v),(18,J),(21,.x),(23,J),(24,J),(29,.v),(30,.v),(34,J)]
def o13 := O 33554259
def B13 (P : PT) (N12 : Y k10) : Y k10 := fun x3 x4 x5 x7 x8 x11 x12 x17 x18 x21 x23 x24 x29 x30 x34 H =>
  N12 x3 x4 x5 x7 x8 x11 x12 x17 x18 x21 x23 x24 x29 x30 (IntKind.i64.wrap (x34 + 1)) H
theorem q13 P N12 : Q o13 (E k10 N12) k10 (B13 P N12) := fun _ _ _ _ _ _ _ _ _ _ _ _ _ _ _ _ _ => by kernel_rfl
def o14 := O 536868132
def B14 (P : PT) (N12 : Y k10) : Y k5 := fun H =>
  P (Value.bool false) H
theorem q14 P N12 : Q o14 (ret P) k5 (B14 P N12) := fun _ _ => by kernel_rfl
def o15 := O 134217032
def B15 (P : PT) (N12 : Y k10) : Y k10 := fun x3 x4 x5 x7 x8 x11 x12 x17 x18 x21 x23 x24 x29 x30 x34 H =>
  idxK x30 x34 1 (fun b1 o2 => ldI .i64 H b1 o2 (fun v3 => lenK x29 (fun n4 => pif ((Int.tmod (IntKind.i64.wrap (v3 - (n4 : Int))) 2 : Int) != 0) (B14 P N12 H) (B13 P N12 x3 x4 x5 x7 x8 x11 x12 x17 x18 x21 x23 x24 x29 x30 x34 H))))
theorem q15 P N12 : Q o15 (cnd 194 (E k5 (B14 P N12)) (E k10 (B13 P N12))) k10 (B15 P N12) := fun _ _ _ _ _ _ _ _ _ _ _ _ _ _ _ _ _ => by kernel_rfl
def o16 := O 33554256
def B16 (P : PT) (N12 : Y k10) : Y k10 := fun x3 x4 x5 x7 x8 x11 x12 x17 x18 x21 x23 x24 x29 x30 x34 H =>
  pif (decide ((x34 : Int) < 3)) (B15 P N12 x3 x4 x5 x7 x8 x11 x12 x17 x18 x21 x23 x24 x29 x30 x34 H) (B11 P x3 x4 x5 x7 x8 x11 x12 x17 x18 x21 x23 x24 H)
theorem q16 P N12 : Q o16 (cnd 183 (E k10 (B15 P N12)) (E k9 (B11 P))) k10 (B16 P N12) := fun _ _ _ _ _ _ _ _ _ _ _ _ _ _ _ _ _ => by kernel_rfl
def L12 (P : PT) : Y k10 := fun x3 x4 x5 x7 x8 x11 x12 x17 x18 x21 x23 x24 x29 x30 x34 H =>
  ∃ (I : Y k10) (μ : NTy k10 (AHeap → Nat)), I x3 x4 x5 x7 x8 x11 x12 x17 x18 x21 x23 x24 x29 x30 x34 H ∧ ∀ y3 y4 y5 y7 y8 y11 y12 y17 y18 y21 y23 y24 y29 y30 y34 G, I y3 y4 y5 y7 y8 y11 y12 y17 y18 y21 y23 y24 y29 y30 y34 G → B16 P (fun z3 z4 z5 z7 z8 z11 z12 z17 z18 z21 z23 z24 z29 z30 z34 G' => I z3 z4 z5 z7 z8 z11 z12 z17 z18 z21 z23 z24 z29 z30 z34 G' ∧ μ z3 z4 z5 z7 z8 z11 z12 z17 z18 z21 z23 z24 z29 z30 z34 G' < μ y3 y4 y5 y7 y8 y11 y12 y17 y18 y21 y23 y24 y29 y30 y34 G) y3 y4 y5 y7 y8 y11 y12 y17 y18 y21 y23 y24 y29 y30 y34 G
theorem l12 P : LQ k10 (L12 P) (B16 P) := fun ⟨_,_,_,_,_,_,_,_,_,_,_,_,_,_,_,_⟩ _ ⟨I, μ, h0, hI⟩ => ⟨apT _ I, apT _ μ, h0, fun ⟨_,_,_,_,_,_,_,_,_,_,_,_,_,_,_,_⟩ _ h => hI _ _ _ _ _ _ _ _ _ _ _ _ _ _ _ _  h⟩
abbrev k11 : Sk := [(3,.x),(4,.v),(5,J),(7,.v),(8,J),(11,.v),(12,J),(17,.v),(18,J),(21,.x),(23,J),(24,J),(29,.v),(30,.v)]
def o17 := O 2097140
def B17 (P : PT) : Y k11 := fun x3 x4 x5 x7 x8 x11 x12 x17 x18 x21 x23 x24 x29 x30 H =>
  L12 P x3 x4 x5 x7 x8 x11 x12 x17 x18 x21 x23 x24 x29 x30 0 H
theorem q17 P : Q o17 (E k10 (L12 P)) k11 (B17 P) := fun _ _ _ _ _ _ _ _ _ _ _ _ _ _ _ _ => by kernel_rfl
abbrev k12 : Sk := [(3,.x),(4,.v),(5,J),(7,.v),(8,J),(11,.v),(12,J),(17,.v),(18,J),(21,.x),(23,J),(24,J),(29,.v),(30,.v),(31,J)]
def o18 := O 524284
def B18 (P : PT) : Y k12 := fun x3 x4 x5 x7 x8 x11 x12 x17 x18 x21 x23 x24 x29 x30 x31 H =>
  pif ((x31 : Int) == 0) (B17 P x3 x4 x5 x7 x8 x11 x12 x17 x18 x21 x23 x24 x29 x30 H) (B11 P x3 x4 x5 x7 x8 x11 x12 x17 x18 x21 x23 x24 H)
theorem q18 P : Q o18 (cnd 181 (E k11 (B17 P)) (E k9 (B11 P))) k12 (B18 P) := fun _ _ _ _ _ _ _ _ _ _ _ _ _ _ _ _ _ => by kernel_rfl
def o19 := O 2097132
def B19 (P : PT) : Y k5 := fun H =>
  P (Value.bool false) H
theorem q19 P : Q o19 (ret P) k5 (B19 P) := fun _ _ => by kernel_rfl
abbrev k13 : Sk := [(3,.x),(4,.v),(5,J),(7,.v),(8,J),(11,.v),(12,J),(17,.v),(18,J),(21,.x),(23,J),(24,J),(29,.v),(30,.v),(31,J),(32,.v),(33,J)]
def o20 := O 524282
def B20 (P : PT) : Y k13 := fun x3 x4 x5 x7 x8 x11 x12 x17 x18 x21 x23 x24 x29 x30 x31 x32 x33 H =>
  pif ((x31 : Int) != x33) (B19 P H) (AC Tryz.prog T0 11 [x30, x32] H (fun v1 H2 => asB v1 (fun v3 => pif (!v3) (B19 P H2) (B18 P x3 x4 x5 x7 x8 x11 x12 x17 x18 x21 x23 x24 x29 x30 x31 H2))))
theorem q20 P : Q o20 (cnd 179 (E k5 (B19 P)) (E k12 (B18 P))) k13 (B20 P) := fun _ _ _ _ _ _ _ _ _ _ _ _ _ _ _ _ _ _ _ => by kernel_rfl
abbrev k14 : Sk := [(3,.x),(4,.v),(5,J),(7,.v),(8,J),(11,.v),(12,J),(17,.v),(18,J),(21,.x),(23,J),(24,J),(27,.x),(28,.v),(29,.v),(30,.v),(31,J)]
def o21 := O 262140
def B21 (P : PT) : Y k14 := fun x3 x4 x5 x7 x8 x11 x12 x17 x18 x21 x23 x24 x27 x28 x29 x30 x31 H =>
  ldI .i64 H x27 0 (fun v1 => ld1 H x27 1 (fun v2 => AC Tryz.prog T0 61 [(Value.agg ⟨[(Value.int .i64 v1), v2]⟩), x28, x29] H (fun v3 H4 => tup2 v3 (fun v5 v6 => asI .i64 v6 (fun v8 => B20 P x3 x4 x5 x7 x8 x11 x12 x17 x18 x21 x23 x24 x29 x30 x31 v5 v8 H4)))))
theorem q21 P : Q o21 (E k13 (B20 P)) k14 (B21 P) := fun _ _ _ _ _ _ _ _ _ _ _ _ _ _ _ _ _ _ _ => by kernel_rfl
abbrev k15 : Sk := [(3,.x),(4,.v),(5,J),(7,.v),(8,J),(11,.v),(12,J),(17,.v),(18,J),(21,.x),(23,J),(24,J),(27,.x),(28,.v),(29,.v)]
def o22 := O 65534
def B22 (P : PT) : Y k15 := fun x3 x4 x5 x7 x8 x11 x12 x17 x18 x21 x23 x24 x27 x28 x29 H =>
  ldI .i64 H x27 0 (fun v1 => ld1 H x27 1 (fun v2 => AC Tryz.prog T0 60 [(Value.agg ⟨[(Value.int .i64 v1), v2]⟩), x28, x29] H (fun v3 H4 => tup2 v3 (fun v5 v6 => asI .i64 v6 (fun v8 => B21 P x3 x4 x5 x7 x8 x11 x12 x17 x18 x21 x23 x24 x27 x28 x29 v5 v8 H4)))))
theorem q22 P : Q o22 (E k14 (B21 P)) k15 (B22 P) := fun _ _ _ _ _ _ _ _ _ _ _ _ _ _ _ _ _ => by kernel_rfl
abbrev k16 : Sk := [(0,.v),(3,.x),(4,.v),(5,J),(7,.v),(8,J),(11,.v),(12,J),(17,.v),(18,J),(21,.x),(23,J),(24,J)]
def o23 := O 32766
def B23 (P : PT) : Y k16 := fun x0 x3 x4 x5 x7 x8 x11 x12 x17 x18 x21 x23 x24 H =>
  AC Tryz.prog T0 59 [x0] H (fun v1 H2 => tup3 v1 (fun v3 v4 v5 => agg2 v3 (fun v6 v7 => asI .i64 v6 (fun v8 => newK H2 [(Value.int .i64 0), (Value.slice none 0 0)] 26 (fun b12 H13 => stK H13 b12 0 [(Value.int .i64 v8), v7] (fun H14 => B22 P x3 x4 x5 x7 x8 x11 x12 x17 x18 x21 x23 x24 b12 v4 v5 H14))))))
theorem q23 P : Q o23 (E k15 (B22 P)) k16 (B23 P) := fun _ _ _ _ _ _ _ _ _ _ _ _ _ _ _ => by kernel_rfl
def o24 := O 262124
def B24 (P : PT) : Y k5 := fun H =>
  P (Value.bool false) H
theorem q24 P : Q o24 (ret P) k5 (B24 P) := fun _ _ => by kernel_rfl
abbrev k17 : Sk := [(0,.v),(3,.x),(4,.v),(5,J),(7,.v),(8,J),(11,.v),(12,J),(17,.v),(18,J),(21,.x),(23,J),(24,J),(25,J),(26,J)]
def o25 := O 65530
def B25 (P : PT) : Y k17 := fun x0 x3 x4 x5 x7 x8 x11 x12 x17 x18 x21 x23 x24 x25 x26 H =>
  pif ((x24 : Int) != x26) (B24 P H) (pif ((x23 : Int) != x25) (B24 P H) (B23 P x0 x3 x4 x5 x7 x8 x11 x12 x17 x18 x21 x23 x24 H))
theorem q25 P : Q o25 (cnd 150 (E k5 (B24 P)) (E k16 (B23 P))) k17 (B25 P) := fun _ _ _ _ _ _ _ _ _ _ _ _ _ _ _ _ _ => by kernel_rfl
abbrev k18 : Sk := [(0,.v),(3,.x),(4,.v),(5,J),(7,.v),(8,J),(11,.v),(12,J),(17,.v),(18,J),(21,.x),(22,.v),(23,J),(24,J)]
def o26 := O 32764
def B26 (P : PT) : Y k18 := fun x0 x3 x4 x5 x7 x8 x11 x12 x17 x18 x21 x22 x23 x24 H =>
  ldI .i64 H x21 0 (fun v1 => ld1 H x21 1 (fun v2 => AC Tryz.prog T0 58 [(Value.agg ⟨[(Value.int .i64 v1), v2]⟩), x22] H (fun v3 H4 => tup2 v3 (fun v5 v6 => asI .i64 v5 (fun v7 => asI .i64 v6 (fun v8 => B25 P x0 x3 x4 x5 x7 x8 x11 x12 x17 x18 x21 x23 x24 v7 v8 H4))))))
theorem q26 P : Q o26 (E k17 (B25 P)) k18 (B26 P) := fun _ _ _ _ _ _ _ _ _ _ _ _ _ _ _ _ => by kernel_rfl
abbrev k19 : Sk := [(0,.v),(3,.x),(4,.v),(5,J),(7,.v),(8,J),(11,.v),(12,J),(17,.v),(18,J),(21,.x),(22,.v)]
def o27 := O 8190
def B27 (P : PT) : Y k19 := fun x0 x3 x4 x5 x7 x8 x11 x12 x17 x18 x21 x22 H =>
  ldI .i64 H x21 0 (fun v1 => ld1 H x21 1 (fun v2 => AC Tryz.prog T0 57 [(Value.agg ⟨[(Value.int .i64 v1), v2]⟩), x22] H (fun v3 H4 => tup2 v3 (fun v5 v6 => asI .i64 v5 (fun v7 => asI .i64 v6 (fun v8 => B26 P x0 x3 x4 x5 x7 x8 x11 x12 x17 x18 x21 x22 v7 v8 H4))))))
theorem q27 P : Q o27 (E k18 (B26 P)) k19 (B27 P) := fun _ _ _ _ _ _ _ _ _ _ _ _ _ _ => by kernel_rfl
abbrev k20 : Sk := [(0,.v),(3,.x),(4,.v),(5,J),(7,.v),(8,J),(11,.v),(12,J),(17,.v),(18,J)]
def o28 := O 4094
def B28 (P : PT) : Y k20 := fun x0 x3 x4 x5 x7 x8 x11 x12 x17 x18 H =>
  AC Tryz.prog T0 56 [x0] H (fun v1 H2 => tup2 v1 (fun v3 v4 => agg2 v3 (fun v5 v6 => asI .i64 v5 (fun v7 => newK H2 [(Value.int .i64 0), (Value.slice none 0 0)] 26 (fun b10 H11 => stK H11 b10 0 [(Value.int .i64 v7), v6] (fun H12 => B27 P x0 x3 x4 x5 x7 x8 x11 x12 x17 x18 b10 v4 H12))))))
theorem q28 P : Q o28 (E k19 (B27 P)) k20 (B28 P) := fun _ _ _ _ _ _ _ _ _ _ _ _ => by kernel_rfl
def o29 := O 32748
def B29 (P : PT) : Y k5 := fun H =>
  P (Value.bool false) H
theorem q29 P : Q o29 (ret P) k5 (B29 P) := fun _ _ => by kernel_rfl
abbrev k21 : Sk := [(0,.v),(3,.x),(4,.v),(5,J),(7,.v),(8,J),(11,.v),(12,J),(17,.v),(18,J),(19,.v),(20,J)]
def o30 := O 8186
def B30 (P : PT) : Y k21 := fun x0 x3 x4 x5 x7 x8 x11 x12 x17 x18 x19 x20 H =>
  pif ((x18 : Int) != x20) (B29 P H) (AC Tryz.prog T0 11 [x17, x19] H (fun v1 H2 => asB v1 (fun v3 => pif (!v3) (B29 P H2) (B28 P x0 x3 x4 x5 x7 x8 x11 x12 x17 x18 H2))))
theorem q30 P : Q o30 (cnd 125 (E k5 (B29 P)) (E k20 (B28 P))) k21 (B30 P) := fun _ _ _ _ _ _ _ _ _ _ _ _ _ _ => by kernel_rfl
abbrev k22 : Sk := [(0,.v),(3,.x),(4,.v),(5,J),(7,.v),(8,J),(11,.v),(12,J),(15,.x),(16,.v),(17,.v),(18,J)]
def o31 := O 4092
def B31 (P : PT) : Y k22 := fun x0 x3 x4 x5 x7 x8 x11 x12 x15 x16 x17 x18 H =>
  ldI .i64 H x15 0 (fun v1 => ld1 H x15 1 (fun v2 => AC Tryz.prog T0 55 [(Value.agg ⟨[(Value.int .i64 v1), v2]⟩), x16] H (fun v3 H4 => tup2 v3 (fun v5 v6 => asI .i64 v6 (fun v8 => B30 P x0 x3 x4 x5 x7 x8 x11 x12 x17 x18 v5 v8 H4)))))
theorem q31 P : Q o31 (E k21 (B30 P)) k22 (B31 P) := fun _ _ _ _ _ _ _ _ _ _ _ _ _ _ => by kernel_rfl
abbrev k23 : Sk := [(0,.v),(3,.x),(4,.v),(5,J),(7,.v),(8,J),(11,.v),(12,J),(15,.x),(16,.v)]
def o32 := O 1022
def B32 (P : PT) : Y k23 := fun x0 x3 x4 x5 x7 x8 x11 x12 x15 x16 H =>
  ldI .i64 H x15 0 (fun v1 => ld1 H x15 1 (fun v2 => AC Tryz.prog T0 54 [(Value.agg ⟨[(Value.int .i64 v1), v2]⟩), x16] H (fun v3 H4 => tup2 v3 (fun v5 v6 => asI .i64 v6 (fun v8 => B31 P x0 x3 x4 x5 x7 x8 x11 x12 x15 x16 v5 v8 H4)))))
theorem q32 P : Q o32 (E k22 (B31 P)) k23 (B32 P) := fun _ _ _ _ _ _ _ _ _ _ _ _ => by kernel_rfl
abbrev k24 : Sk := [(0,.v),(3,.x),(4,.v),(5,J),(7,.v),(8,J),(11,.v),(12,J)]
def o33 := O 510
def B33 (P : PT) : Y k24 := fun x0 x3 x4 x5 x7 x8 x11 x12 H =>
  AC Tryz.prog T0 53 [x0] H (fun v1 H2 => tup2 v1 (fun v3 v4 => agg2 v3 (fun v5 v6 => asI .i64 v5 (fun v7 => newK H2 [(Value.int .i64 0), (Value.slice none 0 0)] 26 (fun b10 H11 => stK H11 b10 0 [(Value.int .i64 v7), v6] (fun H12 => B32 P x0 x3 x4 x5 x7 x8 x11 x12 b10 v4 H12))))))
theorem q33 P : Q o33 (E k23 (B32 P)) k24 (B33 P) := fun _ _ _ _ _ _ _ _ _ _ => by kernel_rfl
def o34 := O 4076
def B34 (P : PT) : Y k5 := fun H =>
  P (Value.bool false) H
theorem q34 P : Q o34 (ret P) k5 (B34 P) := fun _ _ => by kernel_rfl
abbrev k25 : Sk := [(0,.v),(3,.x),(4,.v),(5,J),(7,.v),(8,J),(11,.v),(12,J),(13,.v),(14,J)]
def o35 := O 1018
def B35 (P : PT) : Y k25 := fun x0 x3 x4 x5 x7 x8 x11 x12 x13 x14 H =>
  pif ((x12 : Int) != x14) (B34 P H) (AC Tryz.prog T0 11 [x11, x13] H (fun v1 H2 => asB v1 (fun v3 => pif (!v3) (B34 P H2) (B33 P x0 x3 x4 x5 x7 x8 x11 x12 H2))))
theorem q35 P : Q o35 (cnd 99 (E k5 (B34 P)) (E k24 (B33 P))) k25 (B35 P) := fun _ _ _ _ _ _ _ _ _ _ _ _ => by kernel_rfl
abbrev k26 : Sk := [(0,.v),(3,.x),(4,.v),(5,J),(6,J),(7,.v),(8,J),(11,.v),(12,J)]
def o36 := O 508
def B36 (P : PT) : Y k26 := fun x0 x3 x4 x5 x6 x7 x8 x11 x12 H =>
  ldI .i64 H x3 0 (fun v1 => ld1 H x3 1 (fun v2 => AC Tryz.prog T0 52 [(Value.agg ⟨[(Value.int .i64 v1), v2]⟩), x4, (Value.int .i64 x5), (Value.int .i64 x6)] H (fun v3 H4 => tup2 v3 (fun v5 v6 => asI .i64 v6 (fun v8 => B35 P x0 x3 x4 x5 x7 x8 x11 x12 v5 v8 H4)))))
theorem q36 P : Q o36 (E k25 (B35 P)) k26 (B36 P) := fun _ _ _ _ _ _ _ _ _ _ _ => by kernel_rfl
abbrev k27 : Sk := [(0,.v),(3,.x),(4,.v),(5,J),(6,J),(7,.v),(8,J)]
def o37 := O 126
def B37 (P : PT) : Y k27 := fun x0 x3 x4 x5 x6 x7 x8 H =>
  ldI .i64 H x3 0 (fun v1 => ld1 H x3 1 (fun v2 => AC Tryz.prog T0 51 [(Value.agg ⟨[(Value.int .i64 v1), v2]⟩), x4, (Value.int .i64 x5), (Value.int .i64 x6)] H (fun v3 H4 => tup2 v3 (fun v5 v6 => asI .i64 v6 (fun v8 => B36 P x0 x3 x4 x5 x6 x7 x8 v5 v8 H4)))))
theorem q37 P : Q o37 (E k26 (B36 P)) k27 (B37 P) := fun _ _ _ _ _ _ _ _ _ => by kernel_rfl
def o38 := O 1004
def B38 (P : PT) : Y k5 := fun H =>
  P (Value.bool false) H
theorem q38 P : Q o38 (ret P) k5 (B38 P) := fun _ _ => by kernel_rfl
abbrev k28 : Sk := [(0,.v),(3,.x),(4,.v),(5,J),(6,J),(7,.v),(8,J),(9,.v),(10,J)]
def o39 := O 250
def B39 (P : PT) : Y k28 := fun x0 x3 x4 x5 x6 x7 x8 x9 x10 H =>
  pif ((x8 : Int) != x10) (B38 P H) (AC Tryz.prog T0 11 [x7, x9] H (fun v1 H2 => asB v1 (fun v3 => pif (!v3) (B38 P H2) (B37 P x0 x3 x4 x5 x6 x7 x8 H2))))
theorem q39 P : Q o39 (cnd 74 (E k5 (B38 P)) (E k27 (B37 P))) k28 (B39 P) := fun _ _ _ _ _ _ _ _ _ _ _ => by kernel_rfl
def o40 := O 124
def B40 (P : PT) : Y k27 := fun x0 x3 x4 x5 x6 x7 x8 H =>
  ldI .i64 H x3 0 (fun v1 => ld1 H x3 1 (fun v2 => AC Tryz.prog T0 50 [(Value.agg ⟨[(Value.int .i64 v1), v2]⟩), x4, (Value.int .i64 x5), (Value.int .i64 x6)] H (fun v3 H4 => tup2 v3 (fun v5 v6 => asI .i64 v6 (fun v8 => B39 P x0 x3 x4 x5 x6 x7 x8 v5 v8 H4)))))
theorem q40 P : Q o40 (E k28 (B39 P)) k27 (B40 P) := fun _ _ _ _ _ _ _ _ _ => by kernel_rfl
abbrev k29 : Sk := [(0,.v),(3,.x),(4,.v),(5,J),(6,J)]
def o41 := O 30
def B41 (P : PT) : Y k29 := fun x0 x3 x4 x5 x6 H =>
  ldI .i64 H x3 0 (fun v1 => ld1 H x3 1 (fun v2 => AC Tryz.prog T0 49 [(Value.agg ⟨[(Value.int .i64 v1), v2]⟩), x4, (Value.int .i64 x5), (Value.int .i64 x6)] H (fun v3 H4 => tup2 v3 (fun v5 v6 => asI .i64 v6 (fun v8 => B40 P x0 x3 x4 x5 x6 v5 v8 H4)))))
theorem q41 P : Q o41 (E k27 (B40 P)) k29 (B41 P) := fun _ _ _ _ _ _ _ => by kernel_rfl
abbrev k30 : Sk := [(0,.v)]
def o42 := O 14
def B42 (P : PT) : Y k30 := fun x0 H =>
  AC Tryz.prog T0 48 [x0] H (fun v1 H2 => tup4 v1 (fun v3 v4 v5 v6 => agg2 v3 (fun v7 v8 => asI .i64 v7 (fun v9 => asI .i64 v5 (fun v12 => asI .i64 v6 (fun v13 => newK H2 [(Value.int .i64 0), (Value.slice none 0 0)] 26 (fun b14 H15 => stK H15 b14 0 [(Value.int .i64 v9), v8] (fun H16 => B41 P x0 b14 v4 v12 v13 H16))))))))
theorem q42 P : Q o42 (E k29 (B41 P)) k30 (B42 P) := fun _ _ _ => by kernel_rfl
def o43 := O 52
def B43 (P : PT) : Y k5 := fun H =>
  P (Value.bool true) H
theorem q43 P : Q o43 (ret P) k5 (B43 P) := fun _ _ => by kernel_rfl
def o44 := O 12
def B44 (P : PT) : Y k30 := fun x0 H =>
  AC Tryz.prog T0 7 [x0] H (fun v1 H2 => asB v1 (fun v3 => pif v3 (B43 P H2) (B42 P x0 H2)))
theorem q44 P : Q o44 (cnd 42 (E k5 (B43 P)) (E k30 (B42 P))) k30 (B44 P) := fun _ _ _ => by kernel_rfl
def o45 := O 2
def B45 (P : PT) : Y k30 := fun x0 H =>
  B44 P x0 H
theorem q45 P : Q o45 (E k30 (B44 P)) k30 (B45 P) := fun _ _ _ => by kernel_rfl
def code : Code := (.seq (R 0 o45) (.seq (.seq (R 1 o44) (.cond (.tmp 42) (.seq (R 2 o43) .ret) .skip)) (.seq (R 3 o42) (.seq (R 4 o41) (.seq (.seq (R 5 o40) (.seq (R 6 o39) (.cond (.tmp 74) (.seq (R 7 o38) .ret) .skip))) (.seq (R 8 o37) (.seq (.seq (R 9 o36) (.seq (R 10 o35) (.cond (.tmp 99) (.seq (R 11 o34) .ret) .skip))) (.seq (R 12 o33) (.seq (R 13 o32) (.seq (.seq (R 14 o31) (.seq (R 15 o30) (.cond (.tmp 125) (.seq (R 16 o29) .ret) .skip))) (.seq (R 17 o28) (.seq (R 18 o27) (.seq (.seq (R 19 o26) (.seq (R 20 o25) (.cond (.tmp 150) (.seq (R 21 o24) .ret) .skip))) (.seq (R 22 o23) (.seq (R 23 o22) (.seq (.seq (R 24 o21) (.seq (R 25 o20) (.cond (.tmp 179) (.seq (R 26 o19) .ret) .skip))) (.seq (.seq (R 27 o18) (.cond (.tmp 181) (.seq (R 28 o17) (.block 0 (.loop (.seq (.seq (R 29 o16) (.cond (.tmp 183) .skip (.exit 0))) (.seq (.block 1 (.seq (R 31 o15) (.cond (.tmp 194) (.seq (R 32 o14) .ret) .skip))) (R 30 o13)))))) .skip)) (.seq (.seq (R 33 o11) (.cond (.tmp 196) (.seq (R 34 o10) (.seq (R 35 o9) (.cond (.tmp 213) (.seq (R 36 o8) .ret) .skip))) .skip)) (.seq (.seq (R 37 o7) (.cond (.tmp 233) (.seq (R 38 o6) .ret) .skip)) (.seq (.seq (R 39 o5) (.cond (.tmp 235) (.seq (R 40 o4) .ret) .skip)) (.seq (R 41 o3) (.seq (.region 42 ⟨o2⟩ true) (.seq (R 43 o1) .ret)))))))))))))))))))))))
theorem body : Tryz.f6.body = some code := by kernel_rfl
theorem main (P : PT) : ∀ env H, (En 290 k30 (B45 P)) env H → AW Tryz.prog T0 code env H (M (ret P)) :=
  (r_seq (b (q45 P)) (r_seq (r_seq (b (q44 P)) (r_cond rfl (r_seq (b (q43 P)) r_ret) r_skip)) (r_seq (b (q42 P)) (r_seq (b (q41 P)) (r_seq (r_seq (b (q40 P)) (r_seq (b (q39 P)) (r_cond rfl (r_seq (b (q38 P)) r_ret) r_skip))) (r_seq (b (q37 P)) (r_seq (r_seq (b (q36 P)) (r_seq (b (q35 P)) (r_cond rfl (r_seq (b (q34 P)) r_ret) r_skip))) (r_seq (b (q33 P)) (r_seq (b (q32 P)) (r_seq (r_seq (b (q31 P)) (r_seq (b (q30 P)) (r_cond rfl (r_seq (b (q29 P)) r_ret) r_skip))) (r_seq (b (q28 P)) (r_seq (b (q27 P)) (r_seq (r_seq (b (q26 P)) (r_seq (b (q25 P)) (r_cond rfl (r_seq (b (q24 P)) r_ret) r_skip))) (r_seq (b (q23 P)) (r_seq (b (q22 P)) (r_seq (r_seq (b (q21 P)) (r_seq (b (q20 P)) (r_cond rfl (r_seq (b (q19 P)) r_ret) r_skip))) (r_seq (r_seq (b (q18 P)) (r_cond rfl (r_seq (b (q17 P)) (r_block (rL (l12 P) (fun N12 => (r_seq (r_seq (b (q16 P N12)) (r_cond rfl r_skip (r_exit (fun _ _ h => h)))) (r_seq (r_block (r_seq (b (q15 P N12)) (r_cond rfl (r_seq (b (q14 P N12)) r_ret) r_skip))) (b (q13 P N12)))))))) r_skip)) (r_seq (r_seq (b (q11 P)) (r_cond rfl (r_seq (b (q10 P)) (r_seq (b (q9 P)) (r_cond rfl (r_seq (b (q8 P)) r_ret) r_skip))) r_skip)) (r_seq (r_seq (b (q7 P)) (r_cond rfl (r_seq (b (q6 P)) r_ret) r_skip)) (r_seq (r_seq (b (q5 P)) (r_cond rfl (r_seq (b (q4 P)) r_ret) r_skip)) (r_seq (b (q3 P)) (r_seq (rD T0_ok mixed [(0, false), (1, false), (2, false), (3, false), (4, false), (5, false), (6, false), (7, false), (8, false), (9, false), (10, false), (11, false), (12, false)] (by kernel_rfl) (q2 P)) (r_seq (b (q1 P)) r_ret)))))))))))))))))))))))
theorem ac (P : PT) (x0 : Value) (H : AHeap) (h : B45 P x0 H) : AC Tryz.prog T0 6 [x0] H P :=
  r_fn T0_ok (c := code) (n := 290) Tryz.func6 body (by kernel_rfl) (main P) (En_mk (x0, ()) (by kernel_rfl) ⟨by kernel_rfl, trivial⟩ h)

end F6
namespace F7
abbrev E := En 6
abbrev Q := QB Tryz.prog T0 6
def O (k : Nat) := ob Tryz.f7 (pth k)
def ret (P : PT) : EP := retE T0 6 Tryz.f7 P
abbrev k0 : Sk := [(0,.v)]
def o1 := O 6
def B1 (P : PT) : Y k0 := fun x0 H =>
  lenK x0 (fun n1 => P (Value.bool (decide (((n1 : Int) : Int) > 4096))) H)
theorem q1 P : Q o1 (ret P) k0 (B1 P) := fun _ _ _ => by kernel_rfl
def o2 := O 2
def B2 (P : PT) : Y k0 := fun x0 H =>
  B1 P x0 H
theorem q2 P : Q o2 (E k0 (B1 P)) k0 (B2 P) := fun _ _ _ => by kernel_rfl
def code : Code := (.seq (R 0 o2) (.seq (R 1 o1) .ret))
theorem body : Tryz.f7.body = some code := by kernel_rfl
theorem main (P : PT) : ∀ env H, (En 6 k0 (B2 P)) env H → AW Tryz.prog T0 code env H (M (ret P)) :=
  (r_seq (b (q2 P)) (r_seq (b (q1 P)) r_ret))
theorem ac (P : PT) (x0 : Value) (H : AHeap) (h : B2 P x0 H) : AC Tryz.prog T0 7 [x0] H P :=
  r_fn T0_ok (c := code) (n := 6) Tryz.func7 body (by kernel_rfl) (main P) (En_mk (x0, ()) (by kernel_rfl) ⟨by kernel_rfl, trivial⟩ h)

end F7
namespace F11
abbrev E := En 26
abbrev Q := QB Tryz.prog T0 26
def O (k : Nat) := ob Tryz.f11 (pth k)
def ret (P : PT) : EP := retE T0 26 Tryz.f11 P
abbrev k0 : Sk := []
def o1 := O 30
def B1 (P : PT) : Y k0 := fun H =>
  P (Value.bool true) H
theorem q1 P : Q o1 (ret P) k0 (B1 P) := fun _ _ => by kernel_rfl
abbrev k1 : Sk := [(0,.v),(1,.v),(5,J)]
def o3 := O 467
def B3 (P : PT) (N2 : Y k1) : Y k1 := fun x0 x1 x5 H =>
  N2 x0 x1 (IntKind.i64.wrap (x5 + 1)) H
theorem q3 P N2 : Q o3 (E k1 N2) k1 (B3 P N2) := fun _ _ _ _ _ => by kernel_rfl
def o4 := O 7460
def B4 (P : PT) (N2 : Y k1) : Y k0 := fun H =>
  P (Value.bool false) H
theorem q4 P N2 : Q o4 (ret P) k0 (B4 P N2) := fun _ _ => by kernel_rfl
def o5 := O 1864
def B5 (P : PT) (N2 : Y k1) : Y k1 := fun x0 x1 x5 H =>
  idxK x0 x5 1 (fun b1 o2 => ldI .i64 H b1 o2 (fun v3 => idxK x1 x5 1 (fun b4 o5 => ldI .i64 H b4 o5 (fun v6 => pif ((v3 : Int) != v6) (B4 P N2 H) (B3 P N2 x0 x1 x5 H)))))
theorem q5 (P : PT) (N2 : Y k1) : QD Tryz.prog T0 26 o5 [(0, false), (1, false), (2, false), (3, false), (4, false), (5, false), (6, false), (7, false), (8, false)] (cnd 25 (En 26 k0 (B4 P N2)) (En 26 k1 (B3 P N2))) k1 (B5 P N2) := fun _ _ _ _ _  => by kernel_rfl
def o6 := O 464
def B6 (P : PT) (N2 : Y k1) : Y k1 := fun x0 x1 x5 H =>
  lenK x0 (fun n1 => pif (decide ((x5 : Int) < (n1 : Int))) (B5 P N2 x0 x1 x5 H) (B1 P H))
theorem q6 P N2 : Q o6 (cnd 14 (E k1 (B5 P N2)) (E k0 (B1 P))) k1 (B6 P N2) := fun _ _ _ _ _ => by kernel_rfl
def L2 (P : PT) : Y k1 := fun x0 x1 x5 H =>
  ∃ (I : Y k1) (μ : NTy k1 (AHeap → Nat)), I x0 x1 x5 H ∧ ∀ y0 y1 y5 G, I y0 y1 y5 G → B6 P (fun z0 z1 z5 G' => I z0 z1 z5 G' ∧ μ z0 z1 z5 G' < μ y0 y1 y5 G) y0 y1 y5 G
theorem l2 P : LQ k1 (L2 P) (B6 P) := fun ⟨_,_,_,_⟩ _ ⟨I, μ, h0, hI⟩ => ⟨apT _ I, apT _ μ, h0, fun ⟨_,_,_,_⟩ _ h => hI _ _ _ _  h⟩
abbrev k2 : Sk := [(0,.v),(1,.v)]
def o7 := O 28
def B7 (P : PT) : Y k2 := fun x0 x1 H =>
  L2 P x0 x1 0 H
theorem q7 P : Q o7 (E k1 (L2 P)) k2 (B7 P) := fun _ _ _ _ => by kernel_rfl
def o8 := O 52
def B8 (P : PT) : Y k0 := fun H =>
  P (Value.bool false) H
theorem q8 P : Q o8 (ret P) k0 (B8 P) := fun _ _ => by kernel_rfl
def o9 := O 12
def B9 (P : PT) : Y k2 := fun x0 x1 H =>
  lenK x0 (fun n1 => lenK x1 (fun n2 => pif (((n1 : Int) : Int) != (n2 : Int)) (B8 P H) (B7 P x0 x1 H)))
theorem q9 P : Q o9 (cnd 10 (E k0 (B8 P)) (E k2 (B7 P))) k2 (B9 P) := fun _ _ _ _ => by kernel_rfl
def o10 := O 2
def B10 (P : PT) : Y k2 := fun x0 x1 H =>
  B9 P x0 x1 H
theorem q10 P : Q o10 (E k2 (B9 P)) k2 (B10 P) := fun _ _ _ _ => by kernel_rfl
def code : Code := (.seq (R 0 o10) (.seq (.seq (R 1 o9) (.cond (.tmp 10) (.seq (R 2 o8) .ret) .skip)) (.seq (.seq (R 3 o7) (.block 0 (.loop (.seq (.seq (R 4 o6) (.cond (.tmp 14) .skip (.exit 0))) (.seq (.block 1 (.seq (.region 6 ⟨o5⟩ true) (.cond (.tmp 25) (.seq (R 7 o4) .ret) .skip))) (R 5 o3)))))) (.seq (R 8 o1) .ret))))
theorem body : Tryz.f11.body = some code := by kernel_rfl
theorem main (P : PT) : ∀ env H, (En 26 k2 (B10 P)) env H → AW Tryz.prog T0 code env H (M (ret P)) :=
  (r_seq (b (q10 P)) (r_seq (r_seq (b (q9 P)) (r_cond rfl (r_seq (b (q8 P)) r_ret) r_skip)) (r_seq (r_seq (b (q7 P)) (r_block (rL (l2 P) (fun N2 => (r_seq (r_seq (b (q6 P N2)) (r_cond rfl r_skip (r_exit (fun _ _ h => h)))) (r_seq (r_block (r_seq (rD T0_ok mixed [(0, false), (1, false), (2, false), (3, false), (4, false), (5, false), (6, false), (7, false), (8, false)] (by kernel_rfl) (q5 P N2)) (r_cond rfl (r_seq (b (q4 P N2)) r_ret) r_skip))) (b (q3 P N2)))))))) (r_seq (b (q1 P)) r_ret))))
theorem ac (P : PT) (x0 x1 : Value) (H : AHeap) (h : B10 P x0 x1 H) : AC Tryz.prog T0 11 [x0, x1] H P :=
  r_fn T0_ok (c := code) (n := 26) Tryz.func11 body (by kernel_rfl) (main P) (En_mk (x0, x1, ()) (by kernel_rfl) ⟨by kernel_rfl, by kernel_rfl, trivial⟩ h)

end F11
namespace F48
abbrev E := En 12
abbrev Q := QB Tryz.prog T0 12
def O (k : Nat) := ob Tryz.f48 (pth k)
def ret (P : PT) : EP := retE T0 12 Tryz.f48 P
abbrev k0 : Sk := [(0,.v),(2,.x)]
def o1 := O 6
def B1 (P : PT) : Y k0 := fun x0 x2 H =>
  AC Tryz.prog T0 125 [x0] H (fun v1 H2 => tup4 v1 (fun v3 v4 v5 v6 => agg2 v3 (fun v7 v8 => asI .i64 v7 (fun v9 => asI .i64 v5 (fun v12 => asI .i64 v6 (fun v13 => stK H2 x2 0 [(Value.int .i64 v9), v8] (fun H14 => ldI .i64 H14 x2 0 (fun v15 => ld1 H14 x2 1 (fun v16 => P (Value.tuple ⟨[(Value.agg ⟨[(Value.int .i64 v15), v16]⟩), v4, (Value.int .i64 v12), (Value.int .i64 v13)]⟩) H14)))))))))
theorem q1 P : Q o1 (ret P) k0 (B1 P) := fun _ _ _ _ => by kernel_rfl
abbrev k1 : Sk := [(0,.v)]
def o2 := O 2
def B2 (P : PT) : Y k1 := fun x0 H =>
  newK H [(Value.int .i64 0), (Value.slice none 0 0)] 26 (fun b1 H2 => B1 P x0 b1 H2)
theorem q2 P : Q o2 (E k0 (B1 P)) k1 (B2 P) := fun _ _ _ => by kernel_rfl
def code : Code := (.seq (R 0 o2) (.seq (R 1 o1) .ret))
theorem body : Tryz.f48.body = some code := by kernel_rfl
theorem main (P : PT) : ∀ env H, (En 12 k1 (B2 P)) env H → AW Tryz.prog T0 code env H (M (ret P)) :=
  (r_seq (b (q2 P)) (r_seq (b (q1 P)) r_ret))
theorem ac (P : PT) (x0 : Value) (H : AHeap) (h : B2 P x0 H) : AC Tryz.prog T0 48 [x0] H P :=
  r_fn T0_ok (c := code) (n := 12) Tryz.func48 body (by kernel_rfl) (main P) (En_mk (x0, ()) (by kernel_rfl) ⟨by kernel_rfl, trivial⟩ h)

end F48
namespace F49
abbrev E := En 24
abbrev Q := QB Tryz.prog T0 24
def O (k : Nat) := ob Tryz.f49 (pth k)
def ret (P : PT) : EP := retE T0 24 Tryz.f49 P
abbrev k0 : Sk := [(1,.v),(2,J),(3,J),(4,.x)]
def o1 := O 14
def B1 (P : PT) : Y k0 := fun x1 x2 x3 x4 H =>
  ldI .i64 H x4 0 (fun v1 => ld1 H x4 1 (fun v2 => AC Tryz.prog T0 127 [(Value.agg ⟨[(Value.int .i64 v1), v2]⟩), x1, (Value.int .i64 x2), (Value.int .i64 x3)] H (fun v3 H4 => P (Value.tuple ⟨[v3, (Value.int .i64 0)]⟩) H4)))
theorem q1 P : Q o1 (ret P) k0 (B1 P) := fun _ _ _ _ _ _ => by kernel_rfl
abbrev k1 : Sk := [(10,J)]
def o2 := O 108
def B2 (P : PT) : Y k1 := fun x10 H =>
  P (Value.tuple ⟨[(Value.slice none 0 0), (Value.int .i64 x10)]⟩) H
theorem q2 P : Q o2 (ret P) k1 (B2 P) := fun _ _ _ => by kernel_rfl
abbrev k2 : Sk := [(1,.v),(2,J),(3,J),(4,.x),(10,J)]
def o3 := O 26
def B3 (P : PT) : Y k2 := fun x1 x2 x3 x4 x10 H =>
  pif ((x10 : Int) != 0) (B2 P x10 H) (B1 P x1 x2 x3 x4 H)
theorem q3 P : Q o3 (cnd 17 (E k1 (B2 P)) (E k0 (B1 P))) k2 (B3 P) := fun _ _ _ _ _ _ _ => by kernel_rfl
def o4 := O 12
def B4 (P : PT) : Y k0 := fun x1 x2 x3 x4 H =>
  ldI .i64 H x4 0 (fun v1 => ld1 H x4 1 (fun v2 => AC Tryz.prog T0 126 [(Value.agg ⟨[(Value.int .i64 v1), v2]⟩), x1, (Value.int .i64 x2), (Value.int .i64 x3)] H (fun v3 H4 => asI .i64 v3 (fun v5 => B3 P x1 x2 x3 x4 v5 H4))))
theorem q4 P : Q o4 (E k2 (B3 P)) k0 (B4 P) := fun _ _ _ _ _ _ => by kernel_rfl
abbrev k3 : Sk := [(0,.g [.i,.v]),(1,.v),(2,J),(3,J)]
def o5 := O 2
def B5 (P : PT) : Y k3 := fun x0a x0b x1 x2 x3 H =>
  newK H [(Value.int .i64 x0a), x0b] 26 (fun b1 H2 => B4 P x1 x2 x3 b1 H2)
theorem q5 P : Q o5 (E k0 (B4 P)) k3 (B5 P) := fun _ _ _ _ _ _ _ => by kernel_rfl
def code : Code := (.seq (R 0 o5) (.seq (.seq (R 1 o4) (.seq (R 2 o3) (.cond (.tmp 17) (.seq (R 3 o2) .ret) .skip))) (.seq (R 4 o1) .ret)))
theorem body : Tryz.f49.body = some code := by kernel_rfl
theorem main (P : PT) : ∀ env H, (En 24 k3 (B5 P)) env H → AW Tryz.prog T0 code env H (M (ret P)) :=
  (r_seq (b (q5 P)) (r_seq (r_seq (b (q4 P)) (r_seq (b (q3 P)) (r_cond rfl (r_seq (b (q2 P)) r_ret) r_skip))) (r_seq (b (q1 P)) r_ret)))
theorem ac (P : PT) (x0a : Int) (x0b x1 : Value) (x2 x3 : Int) (H : AHeap) (h : B5 P x0a x0b x1 x2 x3 H) : AC Tryz.prog T0 49 [(Value.agg ⟨[(Value.int .i64 x0a), x0b]⟩), x1, (Value.int .i64 x2), (Value.int .i64 x3)] H P :=
  r_fn T0_ok (c := code) (n := 24) Tryz.func49 body (by kernel_rfl) (main P) (En_mk (x0a, x0b, x1, x2, x3, ()) (by kernel_rfl) ⟨by kernel_rfl, by kernel_rfl, by kernel_rfl, by kernel_rfl, trivial⟩ h)

end F49
namespace F50
abbrev E := En 24
abbrev Q := QB Tryz.prog T0 24
def O (k : Nat) := ob Tryz.f50 (pth k)
def ret (P : PT) : EP := retE T0 24 Tryz.f50 P
abbrev k0 : Sk := [(1,.v),(2,J),(3,J),(4,.x)]
def o1 := O 14
def B1 (P : PT) : Y k0 := fun x1 x2 x3 x4 H =>
  ldI .i64 H x4 0 (fun v1 => ld1 H x4 1 (fun v2 => AC Tryz.prog T0 129 [(Value.agg ⟨[(Value.int .i64 v1), v2]⟩), x1, (Value.int .i64 x2), (Value.int .i64 x3)] H (fun v3 H4 => P (Value.tuple ⟨[v3, (Value.int .i64 0)]⟩) H4)))
theorem q1 P : Q o1 (ret P) k0 (B1 P) := fun _ _ _ _ _ _ => by kernel_rfl
abbrev k1 : Sk := [(10,J)]
def o2 := O 108
def B2 (P : PT) : Y k1 := fun x10 H =>
  P (Value.tuple ⟨[(Value.slice none 0 0), (Value.int .i64 x10)]⟩) H
theorem q2 P : Q o2 (ret P) k1 (B2 P) := fun _ _ _ => by kernel_rfl
abbrev k2 : Sk := [(1,.v),(2,J),(3,J),(4,.x),(10,J)]
def o3 := O 26
def B3 (P : PT) : Y k2 := fun x1 x2 x3 x4 x10 H =>
  pif ((x10 : Int) != 0) (B2 P x10 H) (B1 P x1 x2 x3 x4 H)
theorem q3 P : Q o3 (cnd 17 (E k1 (B2 P)) (E k0 (B1 P))) k2 (B3 P) := fun _ _ _ _ _ _ _ => by kernel_rfl
def o4 := O 12
def B4 (P : PT) : Y k0 := fun x1 x2 x3 x4 H =>
  ldI .i64 H x4 0 (fun v1 => ld1 H x4 1 (fun v2 => AC Tryz.prog T0 128 [(Value.agg ⟨[(Value.int .i64 v1), v2]⟩), x1, (Value.int .i64 x2), (Value.int .i64 x3)] H (fun v3 H4 => asI .i64 v3 (fun v5 => B3 P x1 x2 x3 x4 v5 H4))))
theorem q4 P : Q o4 (E k2 (B3 P)) k0 (B4 P) := fun _ _ _ _ _ _ => by kernel_rfl
abbrev k3 : Sk := [(0,.g [.i,.v]),(1,.v),(2,J),(3,J)]
def o5 := O 2
def B5 (P : PT) : Y k3 := fun x0a x0b x1 x2 x3 H =>
  newK H [(Value.int .i64 x0a), x0b] 26 (fun b1 H2 => B4 P x1 x2 x3 b1 H2)
theorem q5 P : Q o5 (E k0 (B4 P)) k3 (B5 P) := fun _ _ _ _ _ _ _ => by kernel_rfl
def code : Code := (.seq (R 0 o5) (.seq (.seq (R 1 o4) (.seq (R 2 o3) (.cond (.tmp 17) (.seq (R 3 o2) .ret) .skip))) (.seq (R 4 o1) .ret)))
theorem body : Tryz.f50.body = some code := by kernel_rfl
theorem main (P : PT) : ∀ env H, (En 24 k3 (B5 P)) env H → AW Tryz.prog T0 code env H (M (ret P)) :=
  (r_seq (b (q5 P)) (r_seq (r_seq (b (q4 P)) (r_seq (b (q3 P)) (r_cond rfl (r_seq (b (q2 P)) r_ret) r_skip))) (r_seq (b (q1 P)) r_ret)))
theorem ac (P : PT) (x0a : Int) (x0b x1 : Value) (x2 x3 : Int) (H : AHeap) (h : B5 P x0a x0b x1 x2 x3 H) : AC Tryz.prog T0 50 [(Value.agg ⟨[(Value.int .i64 x0a), x0b]⟩), x1, (Value.int .i64 x2), (Value.int .i64 x3)] H P :=
  r_fn T0_ok (c := code) (n := 24) Tryz.func50 body (by kernel_rfl) (main P) (En_mk (x0a, x0b, x1, x2, x3, ()) (by kernel_rfl) ⟨by kernel_rfl, by kernel_rfl, by kernel_rfl, by kernel_rfl, trivial⟩ h)

end F50
namespace F51
abbrev E := En 25
abbrev Q := QB Tryz.prog T0 25
def O (k : Nat) := ob Tryz.f51 (pth k)
def ret (P : PT) : EP := retE T0 25 Tryz.f51 P
abbrev k0 : Sk := [(1,.v),(2,J),(3,J),(4,.x)]
def o1 := O 14
def B1 (P : PT) : Y k0 := fun x1 x2 x3 x4 H =>
  ldI .i64 H x4 0 (fun v1 => ld1 H x4 1 (fun v2 => AC Tryz.prog T0 130 [(Value.agg ⟨[(Value.int .i64 v1), v2]⟩), x1, (Value.int .i64 x2), (Value.int .i64 x3)] H (fun v3 H4 => asI .u64 v3 (fun v5 => AC Tryz.prog T0 81 [(Value.int .u64 v5)] H4 (fun v6 H7 => P (Value.tuple ⟨[v6, (Value.int .i64 0)]⟩) H7)))))
theorem q1 P : Q o1 (ret P) k0 (B1 P) := fun _ _ _ _ _ _ => by kernel_rfl
abbrev k1 : Sk := [(10,J)]
def o2 := O 108
def B2 (P : PT) : Y k1 := fun x10 H =>
  P (Value.tuple ⟨[(Value.slice none 0 0), (Value.int .i64 x10)]⟩) H
theorem q2 P : Q o2 (ret P) k1 (B2 P) := fun _ _ _ => by kernel_rfl
abbrev k2 : Sk := [(1,.v),(2,J),(3,J),(4,.x),(10,J)]
def o3 := O 26
def B3 (P : PT) : Y k2 := fun x1 x2 x3 x4 x10 H =>
  pif ((x10 : Int) != 0) (B2 P x10 H) (B1 P x1 x2 x3 x4 H)
theorem q3 P : Q o3 (cnd 17 (E k1 (B2 P)) (E k0 (B1 P))) k2 (B3 P) := fun _ _ _ _ _ _ _ => by kernel_rfl
def o4 := O 12
def B4 (P : PT) : Y k0 := fun x1 x2 x3 x4 H =>
  ldI .i64 H x4 0 (fun v1 => ld1 H x4 1 (fun v2 => AC Tryz.prog T0 126 [(Value.agg ⟨[(Value.int .i64 v1), v2]⟩), x1, (Value.int .i64 x2), (Value.int .i64 x3)] H (fun v3 H4 => asI .i64 v3 (fun v5 => B3 P x1 x2 x3 x4 v5 H4))))
theorem q4 P : Q o4 (E k2 (B3 P)) k0 (B4 P) := fun _ _ _ _ _ _ => by kernel_rfl
abbrev k3 : Sk := [(0,.g [.i,.v]),(1,.v),(2,J),(3,J)]
def o5 := O 2
def B5 (P : PT) : Y k3 := fun x0a x0b x1 x2 x3 H =>
  newK H [(Value.int .i64 x0a), x0b] 26 (fun b1 H2 => B4 P x1 x2 x3 b1 H2)
theorem q5 P : Q o5 (E k0 (B4 P)) k3 (B5 P) := fun _ _ _ _ _ _ _ => by kernel_rfl
def code : Code := (.seq (R 0 o5) (.seq (.seq (R 1 o4) (.seq (R 2 o3) (.cond (.tmp 17) (.seq (R 3 o2) .ret) .skip))) (.seq (R 4 o1) .ret)))
theorem body : Tryz.f51.body = some code := by kernel_rfl
theorem main (P : PT) : ∀ env H, (En 25 k3 (B5 P)) env H → AW Tryz.prog T0 code env H (M (ret P)) :=
  (r_seq (b (q5 P)) (r_seq (r_seq (b (q4 P)) (r_seq (b (q3 P)) (r_cond rfl (r_seq (b (q2 P)) r_ret) r_skip))) (r_seq (b (q1 P)) r_ret)))
theorem ac (P : PT) (x0a : Int) (x0b x1 : Value) (x2 x3 : Int) (H : AHeap) (h : B5 P x0a x0b x1 x2 x3 H) : AC Tryz.prog T0 51 [(Value.agg ⟨[(Value.int .i64 x0a), x0b]⟩), x1, (Value.int .i64 x2), (Value.int .i64 x3)] H P :=
  r_fn T0_ok (c := code) (n := 25) Tryz.func51 body (by kernel_rfl) (main P) (En_mk (x0a, x0b, x1, x2, x3, ()) (by kernel_rfl) ⟨by kernel_rfl, by kernel_rfl, by kernel_rfl, by kernel_rfl, trivial⟩ h)

end F51
namespace F52
abbrev E := En 43
abbrev Q := QB Tryz.prog T0 43
def O (k : Nat) := ob Tryz.f52 (pth k)
def ret (P : PT) : EP := retE T0 43 Tryz.f52 P
abbrev k0 : Sk := [(12,.v)]
def o1 := O 62
def B1 (P : PT) : Y k0 := fun x12 H =>
  P (Value.tuple ⟨[x12, (Value.int .i64 0)]⟩) H
theorem q1 P : Q o1 (ret P) k0 (B1 P) := fun _ _ _ => by kernel_rfl
abbrev k1 : Sk := [(11,.v),(12,.v),(13,J)]
def o3 := O 979
def B3 (P : PT) (N2 : Y k1) : Y k1 := fun x11 x12 x13 H =>
  N2 x11 x12 (IntKind.i64.wrap (x13 + 1)) H
theorem q3 P N2 : Q o3 (E k1 N2) k1 (B3 P N2) := fun _ _ _ _ _ => by kernel_rfl
def o4 := O 7826
def B4 (P : PT) (N2 : Y k1) : Y k1 := fun x11 x12 x13 H =>
  newK H [(Value.int .i64 x13)] 2 (fun b1 H2 => apK T0 2 H2 x12 (Value.slice (some ⟨b1, 0, none⟩) 1 (1 + 1)) (fun v3 H4 => B3 P N2 x11 v3 x13 H4))
theorem q4 P N2 : Q o4 (E k1 (B3 P N2)) k1 (B4 P N2) := fun _ _ _ _ _ => by kernel_rfl
def o5 := O 3912
def B5 (P : PT) (N2 : Y k1) : Y k1 := fun x11 x12 x13 H =>
  idxK x11 x13 1 (fun b1 o2 => ld1 H b1 o2 (fun v4 => asB v4 (fun v3 => pif v3 (B4 P N2 x11 x12 x13 H) (B3 P N2 x11 x12 x13 H))))
theorem q5 P N2 : Q o5 (cnd 37 (E k1 (B4 P N2)) (E k1 (B3 P N2))) k1 (B5 P N2) := fun _ _ _ _ _ => by kernel_rfl
def o6 := O 976
def B6 (P : PT) (N2 : Y k1) : Y k1 := fun x11 x12 x13 H =>
  lenK x11 (fun n1 => pif (decide ((x13 : Int) < (n1 : Int))) (B5 P N2 x11 x12 x13 H) (B1 P x12 H))
theorem q6 P N2 : Q o6 (cnd 31 (E k1 (B5 P N2)) (E k0 (B1 P))) k1 (B6 P N2) := fun _ _ _ _ _ => by kernel_rfl
def L2 (P : PT) : Y k1 := fun x11 x12 x13 H =>
  ∃ (I : Y k1) (μ : NTy k1 (AHeap → Nat)), I x11 x12 x13 H ∧ ∀ y11 y12 y13 G, I y11 y12 y13 G → B6 P (fun z11 z12 z13 G' => I z11 z12 z13 G' ∧ μ z11 z12 z13 G' < μ y11 y12 y13 G) y11 y12 y13 G
theorem l2 P : LQ k1 (L2 P) (B6 P) := fun ⟨_,_,_,_⟩ _ ⟨I, μ, h0, hI⟩ => ⟨apT _ I, apT _ μ, h0, fun ⟨_,_,_,_⟩ _ h => hI _ _ _ _  h⟩
abbrev k2 : Sk := [(11,.v),(12,.v)]
def o7 := O 60
def B7 (P : PT) : Y k2 := fun x11 x12 H =>
  L2 P x11 x12 0 H
theorem q7 P : Q o7 (E k1 (L2 P)) k2 (B7 P) := fun _ _ _ _ => by kernel_rfl
abbrev k3 : Sk := [(1,.v),(2,J),(3,J),(4,.x)]
def o8 := O 14
def B8 (P : PT) : Y k3 := fun x1 x2 x3 x4 H =>
  ldI .i64 H x4 0 (fun v1 => ld1 H x4 1 (fun v2 => AC Tryz.prog T0 131 [(Value.agg ⟨[(Value.int .i64 v1), v2]⟩), x1, (Value.int .i64 x2), (Value.int .i64 x3)] H (fun v3 H4 => newK H4 [] 2 (fun b6 H7 => B7 P v3 (Value.slice (some ⟨b6, 0, none⟩) 0 (0 + 1)) H7))))
theorem q8 P : Q o8 (E k2 (B7 P)) k3 (B8 P) := fun _ _ _ _ _ _ => by kernel_rfl
abbrev k4 : Sk := [(10,J)]
def o9 := O 108
def B9 (P : PT) : Y k4 := fun x10 H =>
  P (Value.tuple ⟨[(Value.slice none 0 0), (Value.int .i64 x10)]⟩) H
theorem q9 P : Q o9 (ret P) k4 (B9 P) := fun _ _ _ => by kernel_rfl
abbrev k5 : Sk := [(1,.v),(2,J),(3,J),(4,.x),(10,J)]
def o10 := O 26
def B10 (P : PT) : Y k5 := fun x1 x2 x3 x4 x10 H =>
  pif ((x10 : Int) != 0) (B9 P x10 H) (B8 P x1 x2 x3 x4 H)
theorem q10 P : Q o10 (cnd 20 (E k4 (B9 P)) (E k3 (B8 P))) k5 (B10 P) := fun _ _ _ _ _ _ _ => by kernel_rfl
def o11 := O 12
def B11 (P : PT) : Y k3 := fun x1 x2 x3 x4 H =>
  ldI .i64 H x4 0 (fun v1 => ld1 H x4 1 (fun v2 => AC Tryz.prog T0 128 [(Value.agg ⟨[(Value.int .i64 v1), v2]⟩), x1, (Value.int .i64 x2), (Value.int .i64 x3)] H (fun v3 H4 => asI .i64 v3 (fun v5 => B10 P x1 x2 x3 x4 v5 H4))))
theorem q11 P : Q o11 (E k5 (B10 P)) k3 (B11 P) := fun _ _ _ _ _ _ => by kernel_rfl
abbrev k6 : Sk := [(0,.g [.i,.v]),(1,.v),(2,J),(3,J)]
def o12 := O 2
def B12 (P : PT) : Y k6 := fun x0a x0b x1 x2 x3 H =>
  newK H [(Value.int .i64 x0a), x0b] 26 (fun b1 H2 => B11 P x1 x2 x3 b1 H2)
theorem q12 P : Q o12 (E k3 (B11 P)) k6 (B12 P) := fun _ _ _ _ _ _ _ => by kernel_rfl
def code : Code := (.seq (R 0 o12) (.seq (.seq (R 1 o11) (.seq (R 2 o10) (.cond (.tmp 20) (.seq (R 3 o9) .ret) .skip))) (.seq (R 4 o8) (.seq (.seq (R 5 o7) (.block 0 (.loop (.seq (.seq (R 6 o6) (.cond (.tmp 31) .skip (.exit 0))) (.seq (.block 1 (.seq (R 8 o5) (.cond (.tmp 37) (R 9 o4) .skip))) (R 7 o3)))))) (.seq (R 10 o1) .ret)))))
theorem body : Tryz.f52.body = some code := by kernel_rfl
theorem main (P : PT) : ∀ env H, (En 43 k6 (B12 P)) env H → AW Tryz.prog T0 code env H (M (ret P)) :=
  (r_seq (b (q12 P)) (r_seq (r_seq (b (q11 P)) (r_seq (b (q10 P)) (r_cond rfl (r_seq (b (q9 P)) r_ret) r_skip))) (r_seq (b (q8 P)) (r_seq (r_seq (b (q7 P)) (r_block (rL (l2 P) (fun N2 => (r_seq (r_seq (b (q6 P N2)) (r_cond rfl r_skip (r_exit (fun _ _ h => h)))) (r_seq (r_block (r_seq (b (q5 P N2)) (r_cond rfl (b (q4 P N2)) r_skip))) (b (q3 P N2)))))))) (r_seq (b (q1 P)) r_ret)))))
theorem ac (P : PT) (x0a : Int) (x0b x1 : Value) (x2 x3 : Int) (H : AHeap) (h : B12 P x0a x0b x1 x2 x3 H) : AC Tryz.prog T0 52 [(Value.agg ⟨[(Value.int .i64 x0a), x0b]⟩), x1, (Value.int .i64 x2), (Value.int .i64 x3)] H P :=
  r_fn T0_ok (c := code) (n := 43) Tryz.func52 body (by kernel_rfl) (main P) (En_mk (x0a, x0b, x1, x2, x3, ()) (by kernel_rfl) ⟨by kernel_rfl, by kernel_rfl, by kernel_rfl, by kernel_rfl, trivial⟩ h)

end F52
namespace F53
abbrev E := En 8
abbrev Q := QB Tryz.prog T0 8
def O (k : Nat) := ob Tryz.f53 (pth k)
def ret (P : PT) : EP := retE T0 8 Tryz.f53 P
abbrev k0 : Sk := [(0,.v),(2,.x)]
def o1 := O 6
def B1 (P : PT) : Y k0 := fun x0 x2 H =>
  AC Tryz.prog T0 132 [x0] H (fun v1 H2 => tup2 v1 (fun v3 v4 => agg2 v3 (fun v5 v6 => asI .i64 v5 (fun v7 => stK H2 x2 0 [(Value.int .i64 v7), v6] (fun H10 => ldI .i64 H10 x2 0 (fun v11 => ld1 H10 x2 1 (fun v12 => P (Value.tuple ⟨[(Value.agg ⟨[(Value.int .i64 v11), v12]⟩), v4]⟩) H10)))))))
theorem q1 P : Q o1 (ret P) k0 (B1 P) := fun _ _ _ _ => by kernel_rfl
abbrev k1 : Sk := [(0,.v)]
def o2 := O 2
def B2 (P : PT) : Y k1 := fun x0 H =>
  newK H [(Value.int .i64 0), (Value.slice none 0 0)] 26 (fun b1 H2 => B1 P x0 b1 H2)
theorem q2 P : Q o2 (E k0 (B1 P)) k1 (B2 P) := fun _ _ _ => by kernel_rfl
def code : Code := (.seq (R 0 o2) (.seq (R 1 o1) .ret))
theorem body : Tryz.f53.body = some code := by kernel_rfl
theorem main (P : PT) : ∀ env H, (En 8 k1 (B2 P)) env H → AW Tryz.prog T0 code env H (M (ret P)) :=
  (r_seq (b (q2 P)) (r_seq (b (q1 P)) r_ret))
theorem ac (P : PT) (x0 : Value) (H : AHeap) (h : B2 P x0 H) : AC Tryz.prog T0 53 [x0] H P :=
  r_fn T0_ok (c := code) (n := 8) Tryz.func53 body (by kernel_rfl) (main P) (En_mk (x0, ()) (by kernel_rfl) ⟨by kernel_rfl, trivial⟩ h)

end F53
namespace F54
abbrev E := En 65
abbrev Q := QB Tryz.prog T0 65
def O (k : Nat) := ob Tryz.f54 (pth k)
def ret (P : PT) : EP := retE T0 65 Tryz.f54 P
abbrev k0 : Sk := [(7,.v)]
def o1 := O 62
def B1 (P : PT) : Y k0 := fun x7 H =>
  P (Value.tuple ⟨[x7, (Value.int .i64 0)]⟩) H
theorem q1 P : Q o1 (ret P) k0 (B1 P) := fun _ _ _ => by kernel_rfl
abbrev k1 : Sk := [(1,.v),(2,.x),(7,.v),(25,.v),(26,J),(27,J)]
def o3 := O 1959
def B3 (P : PT) (N2 : Y k1) : Y k1 := fun x1 x2 x7 x25 x26 x27 H =>
  N2 x1 x2 x7 x25 x26 (IntKind.i64.wrap (x27 + 1)) H
theorem q3 P N2 : Q o3 (E k1 N2) k1 (B3 P N2) := fun _ _ _ _ _ _ _ _ => by kernel_rfl
abbrev k2 : Sk := [(1,.v),(2,.x),(7,.v),(11,J),(25,.v),(26,J),(27,J)]
def o4 := O 62671
def B4 (P : PT) (N2 : Y k1) : Y k2 := fun x1 x2 x7 x11 x25 x26 x27 H =>
  newK H [(Value.int .i64 x11)] 2 (fun b1 H2 => apK T0 2 H2 x7 (Value.slice (some ⟨b1, 0, none⟩) 1 (1 + 1)) (fun v3 H4 => B3 P N2 x1 x2 v3 x25 x26 x27 H4))
theorem q4 P N2 : Q o4 (E k1 (B3 P N2)) k2 (B4 P N2) := fun _ _ _ _ _ _ _ _ _ => by kernel_rfl
abbrev k3 : Sk := [(1,.v),(2,.x),(7,.v),(9,.x),(10,.i .u64),(11,J),(25,.v),(26,J),(27,J),(31,.v),(32,J),(33,J)]
def o6 := O 4010919
def B6 (P : PT) (N2 : Y k1) (N5 : Y k3) : Y k3 := fun x1 x2 x7 x9 x10 x11 x25 x26 x27 x31 x32 x33 H =>
  N5 x1 x2 x7 x9 x10 x11 x25 x26 x27 x31 x32 (IntKind.i64.wrap (x33 + 1)) H
theorem q6 P N2 N5 : Q o6 (E k3 N5) k3 (B6 P N2 N5) := fun _ _ _ _ _ _ _ _ _ _ _ _ _ _ => by kernel_rfl
def o7 := O 128349389
def B7 (P : PT) (N2 : Y k1) (N5 : Y k3) : Y k3 := fun x1 x2 x7 x9 x10 x11 x25 x26 x27 x31 x32 x33 H =>
  B6 P N2 N5 x1 x2 x7 x9 x10 (IntKind.i64.wrap (x11 + 1)) x25 x26 x27 x31 x32 x33 H
theorem q7 P N2 N5 : Q o7 (E k3 (B6 P N2 N5)) k3 (B7 P N2 N5) := fun _ _ _ _ _ _ _ _ _ _ _ _ _ _ => by kernel_rfl
abbrev k4 : Sk := [(1,.v),(2,.x),(7,.v),(9,.x),(10,.i .u64),(11,J),(12,J),(25,.v),(26,J),(27,J),(31,.v),(32,J),(33,J)]
def o8 := O 128349388
def B8 (P : PT) (N2 : Y k1) (N5 : Y k3) : Y k4 := fun x1 x2 x7 x9 x10 x11 x12 x25 x26 x27 x31 x32 x33 H =>
  ldI .i64 H x2 0 (fun v1 => ld1 H x2 1 (fun v2 => ldI .i64 H x9 1 (fun v3 => AC Tryz.prog T0 130 [(Value.agg ⟨[(Value.int .i64 v1), v2]⟩), x1, (Value.int .i64 x12), (Value.int .i64 v3)] H (fun v4 H5 => asI .u64 v4 (fun v6 => B7 P N2 N5 x1 x2 x7 x9 (IntKind.u64.wrap (BitVec.ofInt 64 x10 ||| BitVec.ofInt 64 v6).toNat) x11 x25 x26 x27 x31 x32 x33 H5)))))
theorem q8 P N2 N5 : Q o8 (E k3 (B7 P N2 N5)) k4 (B8 P N2 N5) := fun _ _ _ _ _ _ _ _ _ _ _ _ _ _ _ => by kernel_rfl
abbrev k5 : Sk := [(1,.v),(2,.x),(7,.v),(9,.x),(10,.i .u64),(11,J),(12,J),(13,J),(25,.v),(26,J),(27,J),(31,.v),(32,J),(33,J)]
def o9 := O 32087346
def B9 (P : PT) (N2 : Y k1) (N5 : Y k3) : Y k5 := fun x1 x2 x7 x9 x10 x11 x12 x13 x25 x26 x27 x31 x32 x33 H =>
  ldI .i64 H x9 0 (fun v1 => pif ((x13 : Int) == v1) (AC Tryz.prog T0 134 [(Value.int .u64 x10), (Value.int .i64 x12)] H (fun v2 H3 => asB v2 (fun v4 => pif (!v4) (B8 P N2 N5 x1 x2 x7 x9 x10 x11 x12 x25 x26 x27 x31 x32 x33 H3) (B6 P N2 N5 x1 x2 x7 x9 x10 x11 x25 x26 x27 x31 x32 x33 H3)))) (B6 P N2 N5 x1 x2 x7 x9 x10 x11 x25 x26 x27 x31 x32 x33 H))
theorem q9 P N2 N5 : Q o9 (cnd 47 (E k4 (B8 P N2 N5)) (E k3 (B6 P N2 N5))) k5 (B9 P N2 N5) := fun _ _ _ _ _ _ _ _ _ _ _ _ _ _ _ _ => by kernel_rfl
def o10 := O 16043672
def B10 (P : PT) (N2 : Y k1) (N5 : Y k3) : Y k3 := fun x1 x2 x7 x9 x10 x11 x25 x26 x27 x31 x32 x33 H =>
  idxK x31 x33 1 (fun b1 o2 => ldI .i64 H b1 o2 (fun v3 => B9 P N2 N5 x1 x2 x7 x9 x10 x11 x33 v3 x25 x26 x27 x31 x32 x33 H))
theorem q10 P N2 N5 : Q o10 (E k5 (B9 P N2 N5)) k3 (B10 P N2 N5) := fun _ _ _ _ _ _ _ _ _ _ _ _ _ _ => by kernel_rfl
def o11 := O 1002728
def B11 (P : PT) (N2 : Y k1) (N5 : Y k3) : Y k3 := fun x1 x2 x7 x9 x10 x11 x25 x26 x27 x31 x32 x33 H =>
  pif (decide ((x33 : Int) < x32)) (B10 P N2 N5 x1 x2 x7 x9 x10 x11 x25 x26 x27 x31 x32 x33 H) (B4 P N2 x1 x2 x7 x11 x25 x26 x27 H)
theorem q11 P N2 N5 : Q o11 (cnd 34 (E k3 (B10 P N2 N5)) (E k2 (B4 P N2))) k3 (B11 P N2 N5) := fun _ _ _ _ _ _ _ _ _ _ _ _ _ _ => by kernel_rfl
def L5 (P : PT) (N2 : Y k1) : Y k3 := fun x1 x2 x7 x9 x10 x11 x25 x26 x27 x31 x32 x33 H =>
  ∃ (I : Y k3) (μ : NTy k3 (AHeap → Nat)), I x1 x2 x7 x9 x10 x11 x25 x26 x27 x31 x32 x33 H ∧ ∀ y1 y2 y7 y9 y10 y11 y25 y26 y27 y31 y32 y33 G, I y1 y2 y7 y9 y10 y11 y25 y26 y27 y31 y32 y33 G → B11 P N2 (fun z1 z2 z7 z9 z10 z11 z25 z26 z27 z31 z32 z33 G' => I z1 z2 z7 z9 z10 z11 z25 z26 z27 z31 z32 z33 G' ∧ μ z1 z2 z7 z9 z10 z11 z25 z26 z27 z31 z32 z33 G' < μ y1 y2 y7 y9 y10 y11 y25 y26 y27 y31 y32 y33 G) y1 y2 y7 y9 y10 y11 y25 y26 y27 y31 y32 y33 G
theorem l5 P N2 : LQ k3 (L5 P N2) (B11 P N2) := fun ⟨_,_,_,_,_,_,_,_,_,_,_,_,_⟩ _ ⟨I, μ, h0, hI⟩ => ⟨apT _ I, apT _ μ, h0, fun ⟨_,_,_,_,_,_,_,_,_,_,_,_,_⟩ _ h => hI _ _ _ _ _ _ _ _ _ _ _ _ _  h⟩
abbrev k6 : Sk := [(1,.v),(2,.x),(7,.v),(9,.x),(10,.i .u64),(11,J),(25,.v),(26,J),(27,J)]
def o12 := O 125340
def B12 (P : PT) (N2 : Y k1) : Y k6 := fun x1 x2 x7 x9 x10 x11 x25 x26 x27 H =>
  lenK x1 (fun n1 => L5 P N2 x1 x2 x7 x9 x10 x11 x25 x26 x27 x1 (n1 : Int) 0 H)
theorem q12 P N2 : Q o12 (E k3 (L5 P N2)) k6 (B12 P N2) := fun _ _ _ _ _ _ _ _ _ _ _ => by kernel_rfl
abbrev k7 : Sk := [(1,.v),(2,.x),(7,.v),(9,.x),(10,.i .u64),(25,.v),(26,J),(27,J)]
def o13 := O 31334
def B13 (P : PT) (N2 : Y k1) : Y k7 := fun x1 x2 x7 x9 x10 x25 x26 x27 H =>
  B12 P N2 x1 x2 x7 x9 x10 0 x25 x26 x27 H
theorem q13 P N2 : Q o13 (E k6 (B12 P N2)) k7 (B13 P N2) := fun _ _ _ _ _ _ _ _ _ _ => by kernel_rfl
abbrev k8 : Sk := [(1,.v),(2,.x),(7,.v),(9,.x),(25,.v),(26,J),(27,J)]
def o14 := O 15666
def B14 (P : PT) (N2 : Y k1) : Y k8 := fun x1 x2 x7 x9 x25 x26 x27 H =>
  B13 P N2 x1 x2 x7 x9 0 x25 x26 x27 H
theorem q14 P N2 : Q o14 (E k7 (B13 P N2)) k8 (B14 P N2) := fun _ _ _ _ _ _ _ _ _ => by kernel_rfl
def o15 := O 7832
def B15 (P : PT) (N2 : Y k1) : Y k1 := fun x1 x2 x7 x25 x26 x27 H =>
  idxK x25 x27 2 (fun b1 o2 => ldI .i64 H b1 o2 (fun v3 => ldI .i64 H b1 (o2 + 1) (fun v4 => newK H [(Value.int .i64 0), (Value.int .i64 0)] 77 (fun b5 H6 => stK H6 b5 0 [(Value.int .i64 v3), (Value.int .i64 v4)] (fun H7 => B14 P N2 x1 x2 x7 b5 x25 x26 x27 H7)))))
theorem q15 P N2 : Q o15 (E k8 (B14 P N2)) k1 (B15 P N2) := fun _ _ _ _ _ _ _ _ => by kernel_rfl
def o16 := O 488
def B16 (P : PT) (N2 : Y k1) : Y k1 := fun x1 x2 x7 x25 x26 x27 H =>
  pif (decide ((x27 : Int) < x26)) (B15 P N2 x1 x2 x7 x25 x26 x27 H) (B1 P x7 H)
theorem q16 P N2 : Q o16 (cnd 28 (E k1 (B15 P N2)) (E k0 (B1 P))) k1 (B16 P N2) := fun _ _ _ _ _ _ _ _ => by kernel_rfl
def L2 (P : PT) : Y k1 := fun x1 x2 x7 x25 x26 x27 H =>
  ∃ (I : Y k1) (μ : NTy k1 (AHeap → Nat)), I x1 x2 x7 x25 x26 x27 H ∧ ∀ y1 y2 y7 y25 y26 y27 G, I y1 y2 y7 y25 y26 y27 G → B16 P (fun z1 z2 z7 z25 z26 z27 G' => I z1 z2 z7 z25 z26 z27 G' ∧ μ z1 z2 z7 z25 z26 z27 G' < μ y1 y2 y7 y25 y26 y27 G) y1 y2 y7 y25 y26 y27 G
theorem l2 P : LQ k1 (L2 P) (B16 P) := fun ⟨_,_,_,_,_,_,_⟩ _ ⟨I, μ, h0, hI⟩ => ⟨apT _ I, apT _ μ, h0, fun ⟨_,_,_,_,_,_,_⟩ _ h => hI _ _ _ _ _ _ _  h⟩
abbrev k9 : Sk := [(1,.v),(2,.x),(7,.v)]
def o17 := O 60
def B17 (P : PT) : Y k9 := fun x1 x2 x7 H =>
  newK H [(Value.int .i64 0), (Value.int .i64 1), (Value.int .i64 0), (Value.int .i64 2), (Value.int .i64 1), (Value.int .i64 2)] 77 (fun b1 H2 => L2 P x1 x2 x7 (Value.slice (some ⟨b1, 0, none⟩) 3 (3 + 1)) 3 0 H2)
theorem q17 P : Q o17 (E k1 (L2 P)) k9 (B17 P) := fun _ _ _ _ _ => by kernel_rfl
abbrev k10 : Sk := [(1,.v),(2,.x)]
def o18 := O 14
def B18 (P : PT) : Y k10 := fun x1 x2 H =>
  B17 P x1 x2 (Value.slice none 0 0) H
theorem q18 P : Q o18 (E k9 (B17 P)) k10 (B18 P) := fun _ _ _ _ => by kernel_rfl
abbrev k11 : Sk := [(6,J)]
def o19 := O 108
def B19 (P : PT) : Y k11 := fun x6 H =>
  P (Value.tuple ⟨[(Value.slice none 0 0), (Value.int .i64 x6)]⟩) H
theorem q19 P : Q o19 (ret P) k11 (B19 P) := fun _ _ _ => by kernel_rfl
abbrev k12 : Sk := [(1,.v),(2,.x),(6,J)]
def o20 := O 26
def B20 (P : PT) : Y k12 := fun x1 x2 x6 H =>
  pif ((x6 : Int) != 0) (B19 P x6 H) (B18 P x1 x2 H)
theorem q20 P : Q o20 (cnd 20 (E k11 (B19 P)) (E k10 (B18 P))) k12 (B20 P) := fun _ _ _ _ _ => by kernel_rfl
def o21 := O 12
def B21 (P : PT) : Y k10 := fun x1 x2 H =>
  ldI .i64 H x2 0 (fun v1 => ld1 H x2 1 (fun v2 => ldI .i64 H x2 0 (fun v3 => ld1 H x2 1 (fun v4 => AC Tryz.prog T0 133 [(Value.agg ⟨[(Value.int .i64 v3), v4]⟩), x1] H (fun v5 H6 => asB v5 (fun v7 => (AHeap.le H H6) ∧ (AC Tryz.prog T0 72 [(Value.agg ⟨[(Value.int .i64 v1), v2]⟩), (Value.bool v7)] H6 (fun v8 H9 => asI .i64 v8 (fun v10 => B20 P x1 x2 v10 H9)))))))))
theorem q21 (P : PT) : QD Tryz.prog T0 65 o21 [(0, false), (1, false), (2, false), (3, true), (4, false), (5, false)] (En 65 k12 (B20 P)) k10 (B21 P) := fun _ _ _ _  => by kernel_rfl
abbrev k13 : Sk := [(0,.g [.i,.v]),(1,.v)]
def o22 := O 2
def B22 (P : PT) : Y k13 := fun x0a x0b x1 H =>
  newK H [(Value.int .i64 x0a), x0b] 26 (fun b1 H2 => B21 P x1 b1 H2)
theorem q22 P : Q o22 (E k10 (B21 P)) k13 (B22 P) := fun _ _ _ _ _ => by kernel_rfl
def code : Code := (.seq (R 0 o22) (.seq (.seq (.region 1 ⟨o21⟩ true) (.seq (R 2 o20) (.cond (.tmp 20) (.seq (R 3 o19) .ret) .skip))) (.seq (R 4 o18) (.seq (.seq (R 5 o17) (.block 0 (.loop (.seq (R 6 o16) (.seq (.cond (.tmp 28) .skip (.exit 0)) (.seq (.block 1 (.seq (R 7 o15) (.seq (R 8 o14) (.seq (R 9 o13) (.seq (.seq (R 10 o12) (.block 2 (.loop (.seq (R 11 o11) (.seq (.cond (.tmp 34) .skip (.exit 2)) (.seq (.block 3 (.seq (R 12 o10) (.seq (R 13 o9) (.cond (.tmp 47) (.seq (R 14 o8) (R 15 o7)) .skip)))) (R 16 o6))))))) (R 17 o4)))))) (R 18 o3))))))) (.seq (R 19 o1) .ret)))))
theorem body : Tryz.f54.body = some code := by kernel_rfl
theorem main (P : PT) : ∀ env H, (En 65 k13 (B22 P)) env H → AW Tryz.prog T0 code env H (M (ret P)) :=
  (r_seq (b (q22 P)) (r_seq (r_seq (rD T0_ok mixed [(0, false), (1, false), (2, false), (3, true), (4, false), (5, false)] (by kernel_rfl) (q21 P)) (r_seq (b (q20 P)) (r_cond rfl (r_seq (b (q19 P)) r_ret) r_skip))) (r_seq (b (q18 P)) (r_seq (r_seq (b (q17 P)) (r_block (rL (l2 P) (fun N2 => (r_seq (b (q16 P N2)) (r_seq (r_cond rfl r_skip (r_exit (fun _ _ h => h))) (r_seq (r_block (r_seq (b (q15 P N2)) (r_seq (b (q14 P N2)) (r_seq (b (q13 P N2)) (r_seq (r_seq (b (q12 P N2)) (r_block (rL (l5 P N2) (fun N5 => (r_seq (b (q11 P N2 N5)) (r_seq (r_cond rfl r_skip (r_exit (fun _ _ h => h))) (r_seq (r_block (r_seq (b (q10 P N2 N5)) (r_seq (b (q9 P N2 N5)) (r_cond rfl (r_seq (b (q8 P N2 N5)) (b (q7 P N2 N5))) r_skip)))) (b (q6 P N2 N5))))))))) (b (q4 P N2))))))) (b (q3 P N2))))))))) (r_seq (b (q1 P)) r_ret)))))
theorem ac (P : PT) (x0a : Int) (x0b x1 : Value) (H : AHeap) (h : B22 P x0a x0b x1 H) : AC Tryz.prog T0 54 [(Value.agg ⟨[(Value.int .i64 x0a), x0b]⟩), x1] H P :=
  r_fn T0_ok (c := code) (n := 65) Tryz.func54 body (by kernel_rfl) (main P) (En_mk (x0a, x0b, x1, ()) (by kernel_rfl) ⟨by kernel_rfl, by kernel_rfl, trivial⟩ h)

end F54
namespace F55
abbrev E := En 85
abbrev Q := QB Tryz.prog T0 85
def O (k : Nat) := ob Tryz.f55 (pth k)
def ret (P : PT) : EP := retE T0 85 Tryz.f55 P
abbrev k0 : Sk := [(7,.v)]
def o1 := O 62
def B1 (P : PT) : Y k0 := fun x7 H =>
  P (Value.tuple ⟨[x7, (Value.int .i64 0)]⟩) H
theorem q1 P : Q o1 (ret P) k0 (B1 P) := fun _ _ _ => by kernel_rfl
abbrev k1 : Sk := [(1,.v),(2,.x),(7,.v),(8,J)]
def o3 := O 979
def B3 (P : PT) (N2 : Y k1) : Y k1 := fun x1 x2 x7 x8 H =>
  N2 x1 x2 x7 (IntKind.i64.wrap (x8 + 1)) H
theorem q3 P N2 : Q o3 (E k1 N2) k1 (B3 P N2) := fun _ _ _ _ _ _ => by kernel_rfl
abbrev k2 : Sk := [(1,.v),(2,.x),(7,.v),(8,J),(9,J)]
def o5 := O 62611
def B5 (P : PT) (N2 : Y k1) (N4 : Y k2) : Y k2 := fun x1 x2 x7 x8 x9 H =>
  N4 x1 x2 x7 x8 (IntKind.i64.wrap (x9 + 1)) H
theorem q5 P N2 N4 : Q o5 (E k2 N4) k2 (B5 P N2 N4) := fun _ _ _ _ _ _ _ => by kernel_rfl
abbrev k3 : Sk := [(1,.v),(2,.x),(7,.v),(8,J),(9,J),(11,J)]
def o6 := O 500883
def B6 (P : PT) (N2 : Y k1) (N4 : Y k2) : Y k3 := fun x1 x2 x7 x8 x9 x11 H =>
  newK H [(Value.int .i64 x11)] 2 (fun b1 H2 => apK T0 2 H2 x7 (Value.slice (some ⟨b1, 0, none⟩) 1 (1 + 1)) (fun v3 H4 => B5 P N2 N4 x1 x2 v3 x8 x9 H4))
theorem q6 P N2 N4 : Q o6 (E k2 (B5 P N2 N4)) k3 (B6 P N2 N4) := fun _ _ _ _ _ _ _ _ => by kernel_rfl
abbrev k4 : Sk := [(1,.v),(2,.x),(7,.v),(8,J),(9,J),(10,.v),(11,J),(12,J)]
def o8 := O 16028243
def B8 (P : PT) (N2 : Y k1) (N4 : Y k2) (N7 : Y k4) : Y k4 := fun x1 x2 x7 x8 x9 x10 x11 x12 H =>
  N7 x1 x2 x7 x8 x9 x10 x11 (IntKind.i64.wrap (x12 + 1)) H
theorem q8 P N2 N4 N7 : Q o8 (E k4 N7) k4 (B8 P N2 N4 N7) := fun _ _ _ _ _ _ _ _ _ _ => by kernel_rfl
abbrev k5 : Sk := [(1,.v),(2,.x),(7,.v),(8,J),(9,J),(10,.v),(11,J),(12,J),(13,.v),(14,J)]
def o10 := O 8206460147
def B10 (P : PT) (N2 : Y k1) (N4 : Y k2) (N7 : Y k4) (N9 : Y k5) : Y k5 := fun x1 x2 x7 x8 x9 x10 x11 x12 x13 x14 H =>
  N9 x1 x2 x7 x8 x9 x10 x11 x12 x13 (IntKind.i64.wrap (x14 + 1)) H
theorem q10 P N2 N4 N7 N9 : Q o10 (E k5 N9) k5 (B10 P N2 N4 N7 N9) := fun _ _ _ _ _ _ _ _ _ _ _ _ => by kernel_rfl
def o11 := O 16412920292
def B11 (P : PT) (N2 : Y k1) (N4 : Y k2) (N7 : Y k4) (N9 : Y k5) : Y k5 := fun x1 x2 x7 x8 x9 x10 x11 x12 x13 x14 H =>
  idxK x10 x14 1 (fun b1 o2 => ld1 H b1 o2 (fun v4 => asB v4 (fun v3 => pif v3 (idxK x10 x14 1 (fun b5 o6 => stK H b5 o6 [(Value.bool true)] (fun H7 => B10 P N2 N4 N7 N9 x1 x2 x7 x8 x9 x10 x11 x12 x13 x14 H7))) (idxK x13 x14 1 (fun b8 o9 => ld1 H b8 o9 (fun v11 => asB v11 (fun v10 => idxK x10 x14 1 (fun b12 o13 => stK H b12 o13 [(Value.bool v10)] (fun H14 => B10 P N2 N4 N7 N9 x1 x2 x7 x8 x9 x10 x11 x12 x13 x14 H14)))))))))
theorem q11 P N2 N4 N7 N9 : Q o11 (E k5 (B10 P N2 N4 N7 N9)) k5 (B11 P N2 N4 N7 N9) := fun _ _ _ _ _ _ _ _ _ _ _ _ => by kernel_rfl
def o12 := O 8206460144
def B12 (P : PT) (N2 : Y k1) (N4 : Y k2) (N7 : Y k4) (N9 : Y k5) : Y k5 := fun x1 x2 x7 x8 x9 x10 x11 x12 x13 x14 H =>
  lenK x1 (fun n1 => pif (decide ((x14 : Int) < (n1 : Int))) (B11 P N2 N4 N7 N9 x1 x2 x7 x8 x9 x10 x11 x12 x13 x14 H) (B8 P N2 N4 N7 x1 x2 x7 x8 x9 x10 x11 x12 H))
theorem q12 P N2 N4 N7 N9 : Q o12 (cnd 64 (E k5 (B11 P N2 N4 N7 N9)) (E k4 (B8 P N2 N4 N7))) k5 (B12 P N2 N4 N7 N9) := fun _ _ _ _ _ _ _ _ _ _ _ _ => by kernel_rfl
def L9 (P : PT) (N2 : Y k1) (N4 : Y k2) (N7 : Y k4) : Y k5 := fun x1 x2 x7 x8 x9 x10 x11 x12 x13 x14 H =>
  ∃ (I : Y k5) (μ : NTy k5 (AHeap → Nat)), I x1 x2 x7 x8 x9 x10 x11 x12 x13 x14 H ∧ ∀ y1 y2 y7 y8 y9 y10 y11 y12 y13 y14 G, I y1 y2 y7 y8 y9 y10 y11 y12 y13 y14 G → B12 P N2 N4 N7 (fun z1 z2 z7 z8 z9 z10 z11 z12 z13 z14 G' => I z1 z2 z7 z8 z9 z10 z11 z12 z13 z14 G' ∧ μ z1 z2 z7 z8 z9 z10 z11 z12 z13 z14 G' < μ y1 y2 y7 y8 y9 y10 y11 y12 y13 y14 G) y1 y2 y7 y8 y9 y10 y11 y12 y13 y14 G
theorem l9 P N2 N4 N7 : LQ k5 (L9 P N2 N4 N7) (B12 P N2 N4 N7) := fun ⟨_,_,_,_,_,_,_,_,_,_,_⟩ _ ⟨I, μ, h0, hI⟩ => ⟨apT _ I, apT _ μ, h0, fun ⟨_,_,_,_,_,_,_,_,_,_,_⟩ _ h => hI _ _ _ _ _ _ _ _ _ _ _  h⟩
abbrev k6 : Sk := [(1,.v),(2,.x),(7,.v),(8,J),(9,J),(10,.v),(11,J),(12,J),(13,.v)]
def o13 := O 512903758
def B13 (P : PT) (N2 : Y k1) (N4 : Y k2) (N7 : Y k4) : Y k6 := fun x1 x2 x7 x8 x9 x10 x11 x12 x13 H =>
  L9 P N2 N4 N7 x1 x2 x7 x8 x9 x10 x11 x12 x13 0 H
theorem q13 P N2 N4 N7 : Q o13 (E k5 (L9 P N2 N4 N7)) k6 (B13 P N2 N4 N7) := fun _ _ _ _ _ _ _ _ _ _ _ => by kernel_rfl
def o14 := O 256451878
def B14 (P : PT) (N2 : Y k1) (N4 : Y k2) (N7 : Y k4) : Y k4 := fun x1 x2 x7 x8 x9 x10 x11 x12 H =>
  ldI .i64 H x2 0 (fun v1 => ld1 H x2 1 (fun v2 => AC Tryz.prog T0 131 [(Value.agg ⟨[(Value.int .i64 v1), v2]⟩), x1, (Value.int .i64 x12), (Value.int .i64 x9)] H (fun v3 H4 => B13 P N2 N4 N7 x1 x2 x7 x8 x9 x10 x11 x12 v3 H4)))
theorem q14 P N2 N4 N7 : Q o14 (E k6 (B13 P N2 N4 N7)) k4 (B14 P N2 N4 N7) := fun _ _ _ _ _ _ _ _ _ _ => by kernel_rfl
def o15 := O 128225938
def B15 (P : PT) (N2 : Y k1) (N4 : Y k2) (N7 : Y k4) : Y k4 := fun x1 x2 x7 x8 x9 x10 x11 x12 H =>
  B14 P N2 N4 N7 x1 x2 x7 x8 x9 x10 (IntKind.i64.wrap (x11 + 1)) x12 H
theorem q15 P N2 N4 N7 : Q o15 (E k4 (B14 P N2 N4 N7)) k4 (B15 P N2 N4 N7) := fun _ _ _ _ _ _ _ _ _ _ => by kernel_rfl
def o16 := O 128225936
def B16 (P : PT) (N2 : Y k1) (N4 : Y k2) (N7 : Y k4) : Y k4 := fun x1 x2 x7 x8 x9 x10 x11 x12 H =>
  idxK x1 x12 1 (fun b1 o2 => ldI .i64 H b1 o2 (fun v3 => pif ((v3 : Int) != x8) (B8 P N2 N4 N7 x1 x2 x7 x8 x9 x10 x11 x12 H) (idxK x10 x12 1 (fun b4 o5 => ld1 H b4 o5 (fun v7 => asB v7 (fun v6 => pif v6 (B8 P N2 N4 N7 x1 x2 x7 x8 x9 x10 x11 x12 H) (B15 P N2 N4 N7 x1 x2 x7 x8 x9 x10 x11 x12 H)))))))
theorem q16 P N2 N4 N7 : Q o16 (cnd 53 (E k4 (B8 P N2 N4 N7)) (E k4 (B15 P N2 N4 N7))) k4 (B16 P N2 N4 N7) := fun _ _ _ _ _ _ _ _ _ _ => by kernel_rfl
def o17 := O 16028240
def B17 (P : PT) (N2 : Y k1) (N4 : Y k2) (N7 : Y k4) : Y k4 := fun x1 x2 x7 x8 x9 x10 x11 x12 H =>
  lenK x1 (fun n1 => pif (decide ((x12 : Int) < (n1 : Int))) (B16 P N2 N4 N7 x1 x2 x7 x8 x9 x10 x11 x12 H) (B6 P N2 N4 x1 x2 x7 x8 x9 x11 H))
theorem q17 P N2 N4 N7 : Q o17 (cnd 39 (E k4 (B16 P N2 N4 N7)) (E k3 (B6 P N2 N4))) k4 (B17 P N2 N4 N7) := fun _ _ _ _ _ _ _ _ _ _ => by kernel_rfl
def L7 (P : PT) (N2 : Y k1) (N4 : Y k2) : Y k4 := fun x1 x2 x7 x8 x9 x10 x11 x12 H =>
  ∃ (I : Y k4) (μ : NTy k4 (AHeap → Nat)), I x1 x2 x7 x8 x9 x10 x11 x12 H ∧ ∀ y1 y2 y7 y8 y9 y10 y11 y12 G, I y1 y2 y7 y8 y9 y10 y11 y12 G → B17 P N2 N4 (fun z1 z2 z7 z8 z9 z10 z11 z12 G' => I z1 z2 z7 z8 z9 z10 z11 z12 G' ∧ μ z1 z2 z7 z8 z9 z10 z11 z12 G' < μ y1 y2 y7 y8 y9 y10 y11 y12 G) y1 y2 y7 y8 y9 y10 y11 y12 G
theorem l7 P N2 N4 : LQ k4 (L7 P N2 N4) (B17 P N2 N4) := fun ⟨_,_,_,_,_,_,_,_,_⟩ _ ⟨I, μ, h0, hI⟩ => ⟨apT _ I, apT _ μ, h0, fun ⟨_,_,_,_,_,_,_,_,_⟩ _ h => hI _ _ _ _ _ _ _ _ _  h⟩
abbrev k7 : Sk := [(1,.v),(2,.x),(7,.v),(8,J),(9,J),(10,.v),(11,J)]
def o18 := O 1001764
def B18 (P : PT) (N2 : Y k1) (N4 : Y k2) : Y k7 := fun x1 x2 x7 x8 x9 x10 x11 H =>
  L7 P N2 N4 x1 x2 x7 x8 x9 x10 x11 0 H
theorem q18 P N2 N4 : Q o18 (E k4 (L7 P N2 N4)) k7 (B18 P N2 N4) := fun _ _ _ _ _ _ _ _ _ => by kernel_rfl
def o19 := O 250440
def B19 (P : PT) (N2 : Y k1) (N4 : Y k2) : Y k2 := fun x1 x2 x7 x8 x9 H =>
  lenK x1 (fun n1 => mkR H 1 4 [(Value.bool false)] (n1 : Int) (n1 : Int) (fun v3 H2 => B18 P N2 N4 x1 x2 x7 x8 x9 v3 0 H2))
theorem q19 P N2 N4 : Q o19 (E k7 (B18 P N2 N4)) k2 (B19 P N2 N4) := fun _ _ _ _ _ _ _ => by kernel_rfl
def o20 := O 62608
def B20 (P : PT) (N2 : Y k1) (N4 : Y k2) : Y k2 := fun x1 x2 x7 x8 x9 H =>
  pif (decide ((x9 : Int) < 3)) (B19 P N2 N4 x1 x2 x7 x8 x9 H) (B3 P N2 x1 x2 x7 x8 H)
theorem q20 P N2 N4 : Q o20 (cnd 30 (E k2 (B19 P N2 N4)) (E k1 (B3 P N2))) k2 (B20 P N2 N4) := fun _ _ _ _ _ _ _ => by kernel_rfl
def L4 (P : PT) (N2 : Y k1) : Y k2 := fun x1 x2 x7 x8 x9 H =>
  ∃ (I : Y k2) (μ : NTy k2 (AHeap → Nat)), I x1 x2 x7 x8 x9 H ∧ ∀ y1 y2 y7 y8 y9 G, I y1 y2 y7 y8 y9 G → B20 P N2 (fun z1 z2 z7 z8 z9 G' => I z1 z2 z7 z8 z9 G' ∧ μ z1 z2 z7 z8 z9 G' < μ y1 y2 y7 y8 y9 G) y1 y2 y7 y8 y9 G
theorem l4 P N2 : LQ k2 (L4 P N2) (B20 P N2) := fun ⟨_,_,_,_,_,_⟩ _ ⟨I, μ, h0, hI⟩ => ⟨apT _ I, apT _ μ, h0, fun ⟨_,_,_,_,_,_⟩ _ h => hI _ _ _ _ _ _  h⟩
def o21 := O 3912
def B21 (P : PT) (N2 : Y k1) : Y k1 := fun x1 x2 x7 x8 H =>
  L4 P N2 x1 x2 x7 x8 (IntKind.i64.wrap (x8 + 1)) H
theorem q21 P N2 : Q o21 (E k2 (L4 P N2)) k1 (B21 P N2) := fun _ _ _ _ _ _ => by kernel_rfl
def o22 := O 976
def B22 (P : PT) (N2 : Y k1) : Y k1 := fun x1 x2 x7 x8 H =>
  pif (decide ((x8 : Int) < 3)) (B21 P N2 x1 x2 x7 x8 H) (B1 P x7 H)
theorem q22 P N2 : Q o22 (cnd 24 (E k1 (B21 P N2)) (E k0 (B1 P))) k1 (B22 P N2) := fun _ _ _ _ _ _ => by kernel_rfl
def L2 (P : PT) : Y k1 := fun x1 x2 x7 x8 H =>
  ∃ (I : Y k1) (μ : NTy k1 (AHeap → Nat)), I x1 x2 x7 x8 H ∧ ∀ y1 y2 y7 y8 G, I y1 y2 y7 y8 G → B22 P (fun z1 z2 z7 z8 G' => I z1 z2 z7 z8 G' ∧ μ z1 z2 z7 z8 G' < μ y1 y2 y7 y8 G) y1 y2 y7 y8 G
theorem l2 P : LQ k1 (L2 P) (B22 P) := fun ⟨_,_,_,_,_⟩ _ ⟨I, μ, h0, hI⟩ => ⟨apT _ I, apT _ μ, h0, fun ⟨_,_,_,_,_⟩ _ h => hI _ _ _ _ _  h⟩
abbrev k8 : Sk := [(1,.v),(2,.x),(7,.v)]
def o23 := O 60
def B23 (P : PT) : Y k8 := fun x1 x2 x7 H =>
  L2 P x1 x2 x7 0 H
theorem q23 P : Q o23 (E k1 (L2 P)) k8 (B23 P) := fun _ _ _ _ _ => by kernel_rfl
abbrev k9 : Sk := [(1,.v),(2,.x)]
def o24 := O 14
def B24 (P : PT) : Y k9 := fun x1 x2 H =>
  newK H [] 2 (fun b1 H2 => B23 P x1 x2 (Value.slice (some ⟨b1, 0, none⟩) 0 (0 + 1)) H2)
theorem q24 P : Q o24 (E k8 (B23 P)) k9 (B24 P) := fun _ _ _ _ => by kernel_rfl
abbrev k10 : Sk := [(6,J)]
def o25 := O 108
def B25 (P : PT) : Y k10 := fun x6 H =>
  P (Value.tuple ⟨[(Value.slice none 0 0), (Value.int .i64 x6)]⟩) H
theorem q25 P : Q o25 (ret P) k10 (B25 P) := fun _ _ _ => by kernel_rfl
abbrev k11 : Sk := [(1,.v),(2,.x),(6,J)]
def o26 := O 26
def B26 (P : PT) : Y k11 := fun x1 x2 x6 H =>
  pif ((x6 : Int) != 0) (B25 P x6 H) (B24 P x1 x2 H)
theorem q26 P : Q o26 (cnd 20 (E k10 (B25 P)) (E k9 (B24 P))) k11 (B26 P) := fun _ _ _ _ _ => by kernel_rfl
def o27 := O 12
def B27 (P : PT) : Y k9 := fun x1 x2 H =>
  ldI .i64 H x2 0 (fun v1 => ld1 H x2 1 (fun v2 => pif (Value.oneCell' x1) (newK H [x1] 28 (fun b3 H4 => AC Tryz.prog T0 135 [(Value.agg ⟨[(Value.int .i64 v1), v2]⟩), (Value.slice (some ⟨b3, 0, none⟩) 1 (1 + 1))] H4 (fun v5 H6 => asI .i64 v5 (fun v7 => B26 P x1 x2 v7 H6)))) False))
theorem q27 P : Q o27 (E k11 (B26 P)) k9 (B27 P) := fun _ _ _ _ => by kernel_rfl
abbrev k12 : Sk := [(0,.g [.i,.v]),(1,.v)]
def o28 := O 2
def B28 (P : PT) : Y k12 := fun x0a x0b x1 H =>
  newK H [(Value.int .i64 x0a), x0b] 26 (fun b1 H2 => B27 P x1 b1 H2)
theorem q28 P : Q o28 (E k9 (B27 P)) k12 (B28 P) := fun _ _ _ _ _ => by kernel_rfl
def code : Code := (.seq (R 0 o28) (.seq (.seq (R 1 o27) (.seq (R 2 o26) (.cond (.tmp 20) (.seq (R 3 o25) .ret) .skip))) (.seq (R 4 o24) (.seq (.seq (R 5 o23) (.block 0 (.loop (.seq (.seq (R 6 o22) (.cond (.tmp 24) .skip (.exit 0))) (.seq (.block 1 (.seq (R 8 o21) (.block 2 (.loop (.seq (.seq (R 9 o20) (.cond (.tmp 30) .skip (.exit 2))) (.seq (.block 3 (.seq (R 11 o19) (.seq (.seq (R 12 o18) (.block 4 (.loop (.seq (.seq (R 13 o17) (.cond (.tmp 39) .skip (.exit 4))) (.seq (.block 5 (.seq (.seq (R 15 o16) (.cond (.tmp 53) (.exit 5) .skip)) (.seq (R 16 o15) (.seq (R 17 o14) (.seq (R 18 o13) (.block 6 (.loop (.seq (.seq (R 19 o12) (.cond (.tmp 64) .skip (.exit 6))) (.seq (.block 7 (R 21 o11)) (R 20 o10)))))))))) (R 14 o8)))))) (R 22 o6)))) (R 10 o5))))))) (R 7 o3)))))) (.seq (R 23 o1) .ret)))))
theorem body : Tryz.f55.body = some code := by kernel_rfl
theorem main (P : PT) : ∀ env H, (En 85 k12 (B28 P)) env H → AW Tryz.prog T0 code env H (M (ret P)) :=
  (r_seq (b (q28 P)) (r_seq (r_seq (b (q27 P)) (r_seq (b (q26 P)) (r_cond rfl (r_seq (b (q25 P)) r_ret) r_skip))) (r_seq (b (q24 P)) (r_seq (r_seq (b (q23 P)) (r_block (rL (l2 P) (fun N2 => (r_seq (r_seq (b (q22 P N2)) (r_cond rfl r_skip (r_exit (fun _ _ h => h)))) (r_seq (r_block (r_seq (b (q21 P N2)) (r_block (rL (l4 P N2) (fun N4 => (r_seq (r_seq (b (q20 P N2 N4)) (r_cond rfl r_skip (r_exit (fun _ _ h => h)))) (r_seq (r_block (r_seq (b (q19 P N2 N4)) (r_seq (r_seq (b (q18 P N2 N4)) (r_block (rL (l7 P N2 N4) (fun N7 => (r_seq (r_seq (b (q17 P N2 N4 N7)) (r_cond rfl r_skip (r_exit (fun _ _ h => h)))) (r_seq (r_block (r_seq (r_seq (b (q16 P N2 N4 N7)) (r_cond rfl (r_exit (fun _ _ h => h)) r_skip)) (r_seq (b (q15 P N2 N4 N7)) (r_seq (b (q14 P N2 N4 N7)) (r_seq (b (q13 P N2 N4 N7)) (r_block (rL (l9 P N2 N4 N7) (fun N9 => (r_seq (r_seq (b (q12 P N2 N4 N7 N9)) (r_cond rfl r_skip (r_exit (fun _ _ h => h)))) (r_seq (r_block (b (q11 P N2 N4 N7 N9))) (b (q10 P N2 N4 N7 N9)))))))))))) (b (q8 P N2 N4 N7)))))))) (b (q6 P N2 N4))))) (b (q5 P N2 N4))))))))) (b (q3 P N2)))))))) (r_seq (b (q1 P)) r_ret)))))
theorem ac (P : PT) (x0a : Int) (x0b x1 : Value) (H : AHeap) (h : B28 P x0a x0b x1 H) : AC Tryz.prog T0 55 [(Value.agg ⟨[(Value.int .i64 x0a), x0b]⟩), x1] H P :=
  r_fn T0_ok (c := code) (n := 85) Tryz.func55 body (by kernel_rfl) (main P) (En_mk (x0a, x0b, x1, ()) (by kernel_rfl) ⟨by kernel_rfl, by kernel_rfl, trivial⟩ h)

end F55
namespace F56
abbrev E := En 14
abbrev Q := QB Tryz.prog T0 14
def O (k : Nat) := ob Tryz.f56 (pth k)
def ret (P : PT) : EP := retE T0 14 Tryz.f56 P
abbrev k0 : Sk := [(2,.x),(4,.v),(5,.x)]
def o1 := O 30
def B1 (P : PT) : Y k0 := fun x2 x4 x5 H =>
  ldI .i64 H x5 0 (fun v1 => ld1 H x5 1 (fun v2 => ldI .i64 H x5 0 (fun v3 => ld1 H x5 1 (fun v4 => AC Tryz.prog T0 136 [x4, (Value.agg ⟨[(Value.int .i64 v3), v4]⟩)] H (fun v5 H6 => (ldI .i64 H6 x5 0 (fun v8 => ld1 H6 x5 1 (fun v9 => ((Value.agg ⟨[(Value.int .i64 v8), v9]⟩) = (Value.agg ⟨[(Value.int .i64 v1), v2]⟩)) ∧ (H6 = H6)))) ∧ (stK H6 x2 0 [(Value.int .i64 v1), v2] (fun H10 => ldI .i64 H10 x2 0 (fun v11 => ld1 H10 x2 1 (fun v12 => P (Value.tuple ⟨[(Value.agg ⟨[(Value.int .i64 v11), v12]⟩), v5]⟩) H10)))))))))
theorem q1 (P : PT) : QT Tryz.prog T0 14 o1 (.op 0 [] (.op 1 [] (.op 2 [] (.op 3 [0] (.op 4 [] (.op 5 [] .done)))))) (ret P) k0 (B1 P) := fun _ _ _ _ _  => by kernel_rfl
abbrev k1 : Sk := [(2,.x),(4,.v)]
def o2 := O 14
def B2 (P : PT) : Y k1 := fun x2 x4 H =>
  AC Tryz.prog T0 82 [x4] H (fun v1 H2 => agg2 v1 (fun v3 v4 => asI .i64 v3 (fun v5 => newK H2 [(Value.int .i64 0), (Value.slice none 0 0)] 26 (fun b7 H8 => stK H8 b7 0 [(Value.int .i64 v5), v4] (fun H9 => B1 P x2 x4 b7 H9)))))
theorem q2 P : Q o2 (E k0 (B1 P)) k1 (B2 P) := fun _ _ _ _ => by kernel_rfl
abbrev k2 : Sk := [(0,.v),(2,.x)]
def o3 := O 6
def B3 (P : PT) : Y k2 := fun x0 x2 H =>
  AC Tryz.prog T0 65 [x0] H (fun v1 H2 => B2 P x2 v1 H2)
theorem q3 P : Q o3 (E k1 (B2 P)) k2 (B3 P) := fun _ _ _ _ => by kernel_rfl
abbrev k3 : Sk := [(0,.v)]
def o4 := O 2
def B4 (P : PT) : Y k3 := fun x0 H =>
  newK H [(Value.int .i64 0), (Value.slice none 0 0)] 26 (fun b1 H2 => B3 P x0 b1 H2)
theorem q4 P : Q o4 (E k2 (B3 P)) k3 (B4 P) := fun _ _ _ => by kernel_rfl
def code : Code := (.seq (R 0 o4) (.seq (R 1 o3) (.seq (R 2 o2) (.seq (.region 3 ⟨o1⟩ true) .ret))))
theorem body : Tryz.f56.body = some code := by kernel_rfl
theorem main (P : PT) : ∀ env H, (En 14 k3 (B4 P)) env H → AW Tryz.prog T0 code env H (M (ret P)) :=
  (r_seq (b (q4 P)) (r_seq (b (q3 P)) (r_seq (b (q2 P)) (r_seq (rT T0_ok mixed (.op 0 [] (.op 1 [] (.op 2 [] (.op 3 [0] (.op 4 [] (.op 5 [] .done)))))) (by kernel_rfl) (q1 P)) r_ret))))
theorem ac (P : PT) (x0 : Value) (H : AHeap) (h : B4 P x0 H) : AC Tryz.prog T0 56 [x0] H P :=
  r_fn T0_ok (c := code) (n := 14) Tryz.func56 body (by kernel_rfl) (main P) (En_mk (x0, ()) (by kernel_rfl) ⟨by kernel_rfl, trivial⟩ h)

end F56
namespace F57
abbrev E := En 74
abbrev Q := QB Tryz.prog T0 74
def O (k : Nat) := ob Tryz.f57 (pth k)
def ret (P : PT) : EP := retE T0 74 Tryz.f57 P
abbrev k0 : Sk := [(7,.v)]
def o1 := O 62
def B1 (P : PT) : Y k0 := fun x7 H =>
  mlenK H x7 (fun n1 => P (Value.tuple ⟨[(Value.int .i64 (n1 : Int)), (Value.int .i64 0)]⟩) H)
theorem q1 P : Q o1 (ret P) k0 (B1 P) := fun _ _ _ => by kernel_rfl
abbrev k1 : Sk := [(2,.x),(7,.v),(8,.v)]
def o3 := O 979
def B3 (P : PT) (N2 : Y k1) : Y k1 := fun x2 x7 x8 H =>
  sliceK H 28 x8 (some (Value.int .i64 1)) none 1 (fun v1 => N2 x2 x7 v1 H)
theorem q3 P N2 : Q o3 (E k1 N2) k1 (B3 P N2) := fun _ _ _ _ _ => by kernel_rfl
abbrev k2 : Sk := []
def o4 := O 62620
def B4 (P : PT) (N2 : Y k1) : Y k2 := fun H =>
  P (Value.tuple ⟨[(Value.int .i64 0), (Value.int .i64 3)]⟩) H
theorem q4 P N2 : Q o4 (ret P) k2 (B4 P N2) := fun _ _ => by kernel_rfl
def o5 := O 15654
def B5 (P : PT) (N2 : Y k1) : Y k1 := fun x2 x7 x8 H =>
  mlenK H x7 (fun n1 => pif (decide (((n1 : Int) : Int) > 300)) (B4 P N2 H) (B3 P N2 x2 x7 x8 H))
theorem q5 P N2 : Q o5 (cnd 71 (E k2 (B4 P N2)) (E k1 (B3 P N2))) k1 (B5 P N2) := fun _ _ _ _ _ => by kernel_rfl
abbrev k3 : Sk := [(2,.x),(7,.v),(8,.v),(9,.v),(37,J),(38,J)]
def o7 := O 500903
def B7 (P : PT) (N2 : Y k1) (N6 : Y k3) : Y k3 := fun x2 x7 x8 x9 x37 x38 H =>
  N6 x2 x7 x8 x9 x37 (IntKind.i64.wrap (x38 + 1)) H
theorem q7 P N2 N6 : Q o7 (E k3 N6) k3 (B7 P N2 N6) := fun _ _ _ _ _ _ _ _ => by kernel_rfl
abbrev k4 : Sk := [(2,.x),(7,.v),(8,.v),(9,.v),(10,J),(37,J),(38,J),(41,J)]
def o9 := O 128231015
def B9 (P : PT) (N2 : Y k1) (N6 : Y k3) (N8 : Y k4) : Y k4 := fun x2 x7 x8 x9 x10 x37 x38 x41 H =>
  N8 x2 x7 x8 x9 x10 x37 x38 (IntKind.i64.wrap (x41 + 1)) H
theorem q9 P N2 N6 N8 : Q o9 (E k4 N8) k4 (B9 P N2 N6 N8) := fun _ _ _ _ _ _ _ _ _ _ => by kernel_rfl
abbrev k5 : Sk := [(2,.x),(7,.v),(8,.v),(9,.v),(10,J),(12,.v),(37,J),(38,J),(41,J)]
def o10 := O 16413569853
def B10 (P : PT) (N2 : Y k1) (N6 : Y k3) (N8 : Y k4) : Y k5 := fun x2 x7 x8 x9 x10 x12 x37 x38 x41 H =>
  pif (Value.oneCell' x12) (newK H [x12] 28 (fun b1 H2 => apK T0 28 H2 x8 (Value.slice (some ⟨b1, 0, none⟩) 1 (1 + 1)) (fun v3 H4 => B9 P N2 N6 N8 x2 x7 v3 x9 x10 x37 x38 x41 H4))) False
theorem q10 P N2 N6 N8 : Q o10 (E k4 (B9 P N2 N6 N8)) k5 (B10 P N2 N6 N8) := fun _ _ _ _ _ _ _ _ _ _ _ => by kernel_rfl
def o11 := O 16413569852
def B11 (P : PT) (N2 : Y k1) (N6 : Y k3) (N8 : Y k4) : Y k5 := fun x2 x7 x8 x9 x10 x12 x37 x38 x41 H =>
  AC Tryz.prog T0 137 [x12] H (fun v1 H2 => asS v1 (fun v3 => mupK Tryz.prog 9 H2 x7 (Value.string v3) (Value.bool true) (fun H4 => B10 P N2 N6 N8 x2 x7 x8 x9 x10 x12 x37 x38 x41 H4)))
theorem q11 P N2 N6 N8 : Q o11 (E k5 (B10 P N2 N6 N8)) k5 (B11 P N2 N6 N8) := fun _ _ _ _ _ _ _ _ _ _ _ => by kernel_rfl
def o12 := O 4103392462
def B12 (P : PT) (N2 : Y k1) (N6 : Y k3) (N8 : Y k4) : Y k5 := fun x2 x7 x8 x9 x10 x12 x37 x38 x41 H =>
  AC Tryz.prog T0 137 [x12] H (fun v1 H2 => asS v1 (fun v3 => lupK Tryz.prog 9 H2 x7 (Value.string v3) (Value.bool false) false (fun v4 => asB v4 (fun v5 => pif (!v5) (B11 P N2 N6 N8 x2 x7 x8 x9 x10 x12 x37 x38 x41 H2) (B9 P N2 N6 N8 x2 x7 x8 x9 x10 x37 x38 x41 H2)))))
theorem q12 P N2 N6 N8 : Q o12 (cnd 59 (E k5 (B11 P N2 N6 N8)) (E k4 (B9 P N2 N6 N8))) k5 (B12 P N2 N6 N8) := fun _ _ _ _ _ _ _ _ _ _ _ => by kernel_rfl
abbrev k6 : Sk := [(2,.x),(7,.v),(8,.v),(9,.v),(10,J),(11,J),(37,J),(38,J),(41,J)]
def o13 := O 2051696230
def B13 (P : PT) (N2 : Y k1) (N6 : Y k3) (N8 : Y k4) : Y k6 := fun x2 x7 x8 x9 x10 x11 x37 x38 x41 H =>
  ldI .i64 H x2 0 (fun v1 => ld1 H x2 1 (fun v2 => AC Tryz.prog T0 127 [(Value.agg ⟨[(Value.int .i64 v1), v2]⟩), x9, (Value.int .i64 x10), (Value.int .i64 x11)] H (fun v3 H4 => B12 P N2 N6 N8 x2 x7 x8 x9 x10 v3 x37 x38 x41 H4)))
theorem q13 P N2 N6 N8 : Q o13 (E k5 (B12 P N2 N6 N8)) k6 (B13 P N2 N6 N8) := fun _ _ _ _ _ _ _ _ _ _ _ => by kernel_rfl
def o14 := O 2051696228
def B14 (P : PT) (N2 : Y k1) (N6 : Y k3) (N8 : Y k4) : Y k6 := fun x2 x7 x8 x9 x10 x11 x37 x38 x41 H =>
  idxK x9 x10 1 (fun b1 o2 => ldI .i64 H b1 o2 (fun v3 => pif ((x11 : Int) == v3) (B9 P N2 N6 N8 x2 x7 x8 x9 x10 x37 x38 x41 H) (B13 P N2 N6 N8 x2 x7 x8 x9 x10 x11 x37 x38 x41 H)))
theorem q14 P N2 N6 N8 : Q o14 (cnd 49 (E k4 (B9 P N2 N6 N8)) (E k6 (B13 P N2 N6 N8))) k6 (B14 P N2 N6 N8) := fun _ _ _ _ _ _ _ _ _ _ _ => by kernel_rfl
def o15 := O 512924056
def B15 (P : PT) (N2 : Y k1) (N6 : Y k3) (N8 : Y k4) : Y k4 := fun x2 x7 x8 x9 x10 x37 x38 x41 H =>
  B14 P N2 N6 N8 x2 x7 x8 x9 x10 x41 x37 x38 x41 H
theorem q15 P N2 N6 N8 : Q o15 (E k6 (B14 P N2 N6 N8)) k4 (B15 P N2 N6 N8) := fun _ _ _ _ _ _ _ _ _ _ => by kernel_rfl
def o16 := O 32057752
def B16 (P : PT) (N2 : Y k1) (N6 : Y k3) (N8 : Y k4) : Y k4 := fun x2 x7 x8 x9 x10 x37 x38 x41 H =>
  pif (decide ((x41 : Int) < 3)) (B15 P N2 N6 N8 x2 x7 x8 x9 x10 x37 x38 x41 H) (B7 P N2 N6 x2 x7 x8 x9 x37 x38 H)
theorem q16 P N2 N6 N8 : Q o16 (cnd 42 (E k4 (B15 P N2 N6 N8)) (E k3 (B7 P N2 N6))) k4 (B16 P N2 N6 N8) := fun _ _ _ _ _ _ _ _ _ _ => by kernel_rfl
def L8 (P : PT) (N2 : Y k1) (N6 : Y k3) : Y k4 := fun x2 x7 x8 x9 x10 x37 x38 x41 H =>
  ∃ (I : Y k4) (μ : NTy k4 (AHeap → Nat)), I x2 x7 x8 x9 x10 x37 x38 x41 H ∧ ∀ y2 y7 y8 y9 y10 y37 y38 y41 G, I y2 y7 y8 y9 y10 y37 y38 y41 G → B16 P N2 N6 (fun z2 z7 z8 z9 z10 z37 z38 z41 G' => I z2 z7 z8 z9 z10 z37 z38 z41 G' ∧ μ z2 z7 z8 z9 z10 z37 z38 z41 G' < μ y2 y7 y8 y9 y10 y37 y38 y41 G) y2 y7 y8 y9 y10 y37 y38 y41 G
theorem l8 P N2 N6 : LQ k4 (L8 P N2 N6) (B16 P N2 N6) := fun ⟨_,_,_,_,_,_,_,_,_⟩ _ ⟨I, μ, h0, hI⟩ => ⟨apT _ I, apT _ μ, h0, fun ⟨_,_,_,_,_,_,_,_,_⟩ _ h => hI _ _ _ _ _ _ _ _ _  h⟩
abbrev k7 : Sk := [(2,.x),(7,.v),(8,.v),(9,.v),(10,J),(37,J),(38,J)]
def o17 := O 4007218
def B17 (P : PT) (N2 : Y k1) (N6 : Y k3) : Y k7 := fun x2 x7 x8 x9 x10 x37 x38 H =>
  L8 P N2 N6 x2 x7 x8 x9 x10 x37 x38 0 H
theorem q17 P N2 N6 : Q o17 (E k4 (L8 P N2 N6)) k7 (B17 P N2 N6) := fun _ _ _ _ _ _ _ _ _ => by kernel_rfl
def o18 := O 2003608
def B18 (P : PT) (N2 : Y k1) (N6 : Y k3) : Y k3 := fun x2 x7 x8 x9 x37 x38 H =>
  B17 P N2 N6 x2 x7 x8 x9 x38 x37 x38 H
theorem q18 P N2 N6 : Q o18 (E k7 (B17 P N2 N6)) k3 (B18 P N2 N6) := fun _ _ _ _ _ _ _ _ => by kernel_rfl
def o19 := O 125224
def B19 (P : PT) (N2 : Y k1) (N6 : Y k3) : Y k3 := fun x2 x7 x8 x9 x37 x38 H =>
  pif (decide ((x38 : Int) < x37)) (B18 P N2 N6 x2 x7 x8 x9 x37 x38 H) (B5 P N2 x2 x7 x8 H)
theorem q19 P N2 N6 : Q o19 (cnd 39 (E k3 (B18 P N2 N6)) (E k1 (B5 P N2))) k3 (B19 P N2 N6) := fun _ _ _ _ _ _ _ _ => by kernel_rfl
def L6 (P : PT) (N2 : Y k1) : Y k3 := fun x2 x7 x8 x9 x37 x38 H =>
  ∃ (I : Y k3) (μ : NTy k3 (AHeap → Nat)), I x2 x7 x8 x9 x37 x38 H ∧ ∀ y2 y7 y8 y9 y37 y38 G, I y2 y7 y8 y9 y37 y38 G → B19 P N2 (fun z2 z7 z8 z9 z37 z38 G' => I z2 z7 z8 z9 z37 z38 G' ∧ μ z2 z7 z8 z9 z37 z38 G' < μ y2 y7 y8 y9 y37 y38 G) y2 y7 y8 y9 y37 y38 G
theorem l6 P N2 : LQ k3 (L6 P N2) (B19 P N2) := fun ⟨_,_,_,_,_,_,_⟩ _ ⟨I, μ, h0, hI⟩ => ⟨apT _ I, apT _ μ, h0, fun ⟨_,_,_,_,_,_,_⟩ _ h => hI _ _ _ _ _ _ _  h⟩
abbrev k8 : Sk := [(2,.x),(7,.v),(8,.v),(9,.v)]
def o20 := O 15652
def B20 (P : PT) (N2 : Y k1) : Y k8 := fun x2 x7 x8 x9 H =>
  ld1 H x2 1 (fun v1 => AC Tryz.prog T0 73 [v1] H (fun v2 H3 => asI .i64 v2 (fun v4 => L6 P N2 x2 x7 x8 x9 v4 0 H3)))
theorem q20 P N2 : Q o20 (E k3 (L6 P N2)) k8 (B20 P N2) := fun _ _ _ _ _ _ => by kernel_rfl
def o21 := O 3912
def B21 (P : PT) (N2 : Y k1) : Y k1 := fun x2 x7 x8 H =>
  idxK x8 0 1 (fun b1 o2 => ld1 H b1 o2 (fun v3 => B20 P N2 x2 x7 x8 v3 H))
theorem q21 P N2 : Q o21 (E k8 (B20 P N2)) k1 (B21 P N2) := fun _ _ _ _ _ => by kernel_rfl
def o22 := O 976
def B22 (P : PT) (N2 : Y k1) : Y k1 := fun x2 x7 x8 H =>
  lenK x8 (fun n1 => pif (decide (((n1 : Int) : Int) > 0)) (B21 P N2 x2 x7 x8 H) (B1 P x7 H))
theorem q22 P N2 : Q o22 (cnd 29 (E k1 (B21 P N2)) (E k0 (B1 P))) k1 (B22 P N2) := fun _ _ _ _ _ => by kernel_rfl
def L2 (P : PT) : Y k1 := fun x2 x7 x8 H =>
  ∃ (I : Y k1) (μ : NTy k1 (AHeap → Nat)), I x2 x7 x8 H ∧ ∀ y2 y7 y8 G, I y2 y7 y8 G → B22 P (fun z2 z7 z8 G' => I z2 z7 z8 G' ∧ μ z2 z7 z8 G' < μ y2 y7 y8 G) y2 y7 y8 G
theorem l2 P : LQ k1 (L2 P) (B22 P) := fun ⟨_,_,_,_⟩ _ ⟨I, μ, h0, hI⟩ => ⟨apT _ I, apT _ μ, h0, fun ⟨_,_,_,_⟩ _ h => hI _ _ _ _  h⟩
abbrev k9 : Sk := [(1,.v),(2,.x),(7,.v)]
def o23 := O 60
def B23 (P : PT) : Y k9 := fun x1 x2 x7 H =>
  pif (Value.oneCell' x1) (newK H [x1] 28 (fun b1 H2 => L2 P x2 x7 (Value.slice (some ⟨b1, 0, none⟩) 1 (1 + 1)) H2)) False
theorem q23 P : Q o23 (E k1 (L2 P)) k9 (B23 P) := fun _ _ _ _ _ => by kernel_rfl
abbrev k10 : Sk := [(1,.v),(2,.x)]
def o24 := O 14
def B24 (P : PT) : Y k10 := fun x1 x2 H =>
  newM H (fun b1 H2 => AC Tryz.prog T0 137 [x1] H2 (fun v3 H4 => asS v3 (fun v5 => mupK Tryz.prog 9 H4 (Value.map (some b1)) (Value.string v5) (Value.bool true) (fun H6 => B23 P x1 x2 (Value.map (some b1)) H6))))
theorem q24 P : Q o24 (E k9 (B23 P)) k10 (B24 P) := fun _ _ _ _ => by kernel_rfl
abbrev k11 : Sk := [(6,J)]
def o25 := O 108
def B25 (P : PT) : Y k11 := fun x6 H =>
  P (Value.tuple ⟨[(Value.int .i64 0), (Value.int .i64 x6)]⟩) H
theorem q25 P : Q o25 (ret P) k11 (B25 P) := fun _ _ _ => by kernel_rfl
abbrev k12 : Sk := [(1,.v),(2,.x),(6,J)]
def o26 := O 26
def B26 (P : PT) : Y k12 := fun x1 x2 x6 H =>
  pif ((x6 : Int) != 0) (B25 P x6 H) (B24 P x1 x2 H)
theorem q26 P : Q o26 (cnd 19 (E k11 (B25 P)) (E k10 (B24 P))) k12 (B26 P) := fun _ _ _ _ _ => by kernel_rfl
def o27 := O 12
def B27 (P : PT) : Y k10 := fun x1 x2 H =>
  ldI .i64 H x2 0 (fun v1 => ld1 H x2 1 (fun v2 => ldI .i64 H x2 0 (fun v3 => ld1 H x2 1 (fun v4 => AC Tryz.prog T0 133 [(Value.agg ⟨[(Value.int .i64 v3), v4]⟩), x1] H (fun v5 H6 => asB v5 (fun v7 => (AHeap.le H H6) ∧ (AC Tryz.prog T0 72 [(Value.agg ⟨[(Value.int .i64 v1), v2]⟩), (Value.bool v7)] H6 (fun v8 H9 => asI .i64 v8 (fun v10 => B26 P x1 x2 v10 H9)))))))))
theorem q27 (P : PT) : QD Tryz.prog T0 74 o27 [(0, false), (1, false), (2, false), (3, true), (4, false), (5, false)] (En 74 k12 (B26 P)) k10 (B27 P) := fun _ _ _ _  => by kernel_rfl
abbrev k13 : Sk := [(0,.g [.i,.v]),(1,.v)]
def o28 := O 2
def B28 (P : PT) : Y k13 := fun x0a x0b x1 H =>
  newK H [(Value.int .i64 x0a), x0b] 26 (fun b1 H2 => B27 P x1 b1 H2)
theorem q28 P : Q o28 (E k10 (B27 P)) k13 (B28 P) := fun _ _ _ _ _ => by kernel_rfl
def code : Code := (.seq (R 0 o28) (.seq (.seq (.region 1 ⟨o27⟩ true) (.seq (R 2 o26) (.cond (.tmp 19) (.seq (R 3 o25) .ret) .skip))) (.seq (R 4 o24) (.seq (.seq (R 5 o23) (.block 0 (.loop (.seq (.seq (R 6 o22) (.cond (.tmp 29) .skip (.exit 0))) (.seq (.block 1 (.seq (R 8 o21) (.seq (.seq (R 9 o20) (.block 2 (.loop (.seq (R 10 o19) (.seq (.cond (.tmp 39) .skip (.exit 2)) (.seq (.block 3 (.seq (R 11 o18) (.seq (R 12 o17) (.block 4 (.loop (.seq (R 13 o16) (.seq (.cond (.tmp 42) .skip (.exit 4)) (.seq (.block 5 (.seq (R 14 o15) (.seq (.seq (R 15 o14) (.cond (.tmp 49) (.exit 5) .skip)) (.seq (R 16 o13) (.seq (R 17 o12) (.cond (.tmp 59) (.seq (R 18 o11) (R 19 o10)) .skip)))))) (R 20 o9))))))))) (R 21 o7))))))) (.seq (R 22 o5) (.cond (.tmp 71) (.seq (R 23 o4) .ret) .skip))))) (R 7 o3)))))) (.seq (R 24 o1) .ret)))))
theorem body : Tryz.f57.body = some code := by kernel_rfl
theorem main (P : PT) : ∀ env H, (En 74 k13 (B28 P)) env H → AW Tryz.prog T0 code env H (M (ret P)) :=
  (r_seq (b (q28 P)) (r_seq (r_seq (rD T0_ok mixed [(0, false), (1, false), (2, false), (3, true), (4, false), (5, false)] (by kernel_rfl) (q27 P)) (r_seq (b (q26 P)) (r_cond rfl (r_seq (b (q25 P)) r_ret) r_skip))) (r_seq (b (q24 P)) (r_seq (r_seq (b (q23 P)) (r_block (rL (l2 P) (fun N2 => (r_seq (r_seq (b (q22 P N2)) (r_cond rfl r_skip (r_exit (fun _ _ h => h)))) (r_seq (r_block (r_seq (b (q21 P N2)) (r_seq (r_seq (b (q20 P N2)) (r_block (rL (l6 P N2) (fun N6 => (r_seq (b (q19 P N2 N6)) (r_seq (r_cond rfl r_skip (r_exit (fun _ _ h => h))) (r_seq (r_block (r_seq (b (q18 P N2 N6)) (r_seq (b (q17 P N2 N6)) (r_block (rL (l8 P N2 N6) (fun N8 => (r_seq (b (q16 P N2 N6 N8)) (r_seq (r_cond rfl r_skip (r_exit (fun _ _ h => h))) (r_seq (r_block (r_seq (b (q15 P N2 N6 N8)) (r_seq (r_seq (b (q14 P N2 N6 N8)) (r_cond rfl (r_exit (fun _ _ h => h)) r_skip)) (r_seq (b (q13 P N2 N6 N8)) (r_seq (b (q12 P N2 N6 N8)) (r_cond rfl (r_seq (b (q11 P N2 N6 N8)) (b (q10 P N2 N6 N8))) r_skip)))))) (b (q9 P N2 N6 N8))))))))))) (b (q7 P N2 N6))))))))) (r_seq (b (q5 P N2)) (r_cond rfl (r_seq (b (q4 P N2)) r_ret) r_skip))))) (b (q3 P N2)))))))) (r_seq (b (q1 P)) r_ret)))))
theorem ac (P : PT) (x0a : Int) (x0b x1 : Value) (H : AHeap) (h : B28 P x0a x0b x1 H) : AC Tryz.prog T0 57 [(Value.agg ⟨[(Value.int .i64 x0a), x0b]⟩), x1] H P :=
  r_fn T0_ok (c := code) (n := 74) Tryz.func57 body (by kernel_rfl) (main P) (En_mk (x0a, x0b, x1, ()) (by kernel_rfl) ⟨by kernel_rfl, by kernel_rfl, trivial⟩ h)

end F57
namespace F58
abbrev E := En 84
abbrev Q := QB Tryz.prog T0 84
def O (k : Nat) := ob Tryz.f58 (pth k)
def ret (P : PT) : EP := retE T0 84 Tryz.f58 P
abbrev k0 : Sk := [(7,.v)]
def o1 := O 62
def B1 (P : PT) : Y k0 := fun x7 H =>
  lenK x7 (fun n1 => P (Value.tuple ⟨[(Value.int .i64 (n1 : Int)), (Value.int .i64 0)]⟩) H)
theorem q1 P : Q o1 (ret P) k0 (B1 P) := fun _ _ _ => by kernel_rfl
abbrev k1 : Sk := [(1,.v),(2,.x),(7,.v),(8,J)]
def o3 := O 979
def B3 (P : PT) (N2 : Y k1) : Y k1 := fun x1 x2 x7 x8 H =>
  N2 x1 x2 x7 (IntKind.i64.wrap (x8 + 1)) H
theorem q3 P N2 : Q o3 (E k1 N2) k1 (B3 P N2) := fun _ _ _ _ _ _ => by kernel_rfl
abbrev k2 : Sk := [(1,.v),(2,.x),(7,.v),(8,J),(9,J)]
def o5 := O 62611
def B5 (P : PT) (N2 : Y k1) (N4 : Y k2) : Y k2 := fun x1 x2 x7 x8 x9 H =>
  N4 x1 x2 x7 x8 (IntKind.i64.wrap (x9 + 1)) H
theorem q5 P N2 N4 : Q o5 (E k2 N4) k2 (B5 P N2 N4) := fun _ _ _ _ _ _ _ => by kernel_rfl
abbrev k3 : Sk := [(1,.v),(2,.x),(7,.v),(8,J),(9,J),(10,J)]
def o7 := O 4007059
def B7 (P : PT) (N2 : Y k1) (N4 : Y k2) (N6 : Y k3) : Y k3 := fun x1 x2 x7 x8 x9 x10 H =>
  N6 x1 x2 x7 x8 x9 (IntKind.i64.wrap (x10 + 1)) H
theorem q7 P N2 N4 N6 : Q o7 (E k3 N6) k3 (B7 P N2 N4 N6) := fun _ _ _ _ _ _ _ _ => by kernel_rfl
abbrev k4 : Sk := []
def o8 := O 1025806972
def B8 (P : PT) (N2 : Y k1) (N4 : Y k2) (N6 : Y k3) : Y k4 := fun H =>
  P (Value.tuple ⟨[(Value.int .i64 0), (Value.int .i64 3)]⟩) H
theorem q8 P N2 N4 N6 : Q o8 (ret P) k4 (B8 P N2 N4 N6) := fun _ _ => by kernel_rfl
def o9 := O 256451742
def B9 (P : PT) (N2 : Y k1) (N4 : Y k2) (N6 : Y k3) : Y k3 := fun x1 x2 x7 x8 x9 x10 H =>
  lenK x7 (fun n1 => pif (decide (((n1 : Int) : Int) > 300)) (B8 P N2 N4 N6 H) (B7 P N2 N4 N6 x1 x2 x7 x8 x9 x10 H))
theorem q9 P N2 N4 N6 : Q o9 (cnd 81 (E k4 (B8 P N2 N4 N6)) (E k3 (B7 P N2 N4 N6))) k3 (B9 P N2 N4 N6) := fun _ _ _ _ _ _ _ _ => by kernel_rfl
abbrev k5 : Sk := [(1,.v),(2,.x),(7,.v),(8,J),(9,J),(10,J),(11,.v)]
def o10 := O 512903482
def B10 (P : PT) (N2 : Y k1) (N4 : Y k2) (N6 : Y k3) : Y k5 := fun x1 x2 x7 x8 x9 x10 x11 H =>
  pif (Value.oneCell' x11) (newK H [x11] 28 (fun b1 H2 => apK T0 28 H2 x7 (Value.slice (some ⟨b1, 0, none⟩) 1 (1 + 1)) (fun v3 H4 => B9 P N2 N4 N6 x1 x2 v3 x8 x9 x10 H4))) False
theorem q10 P N2 N4 N6 : Q o10 (E k3 (B9 P N2 N4 N6)) k5 (B10 P N2 N4 N6) := fun _ _ _ _ _ _ _ _ _ => by kernel_rfl
abbrev k6 : Sk := [(1,.v),(2,.x),(7,.v),(8,J),(9,J),(10,J),(11,.v),(12,.b)]
def o11 := O 256451740
def B11 (P : PT) (N2 : Y k1) (N4 : Y k2) (N6 : Y k3) : Y k6 := fun x1 x2 x7 x8 x9 x10 x11 x12 H =>
  pif (!x12) (B10 P N2 N4 N6 x1 x2 x7 x8 x9 x10 x11 H) (B9 P N2 N4 N6 x1 x2 x7 x8 x9 x10 H)
theorem q11 P N2 N4 N6 : Q o11 (cnd 74 (E k5 (B10 P N2 N4 N6)) (E k3 (B9 P N2 N4 N6))) k6 (B11 P N2 N4 N6) := fun _ _ _ _ _ _ _ _ _ _ => by kernel_rfl
abbrev k7 : Sk := [(1,.v),(2,.x),(7,.v),(8,J),(9,J),(10,J),(11,.v),(12,.b),(13,J)]
def o13 := O 2051613907
def B13 (P : PT) (N2 : Y k1) (N4 : Y k2) (N6 : Y k3) (N12 : Y k7) : Y k7 := fun x1 x2 x7 x8 x9 x10 x11 x12 x13 H =>
  N12 x1 x2 x7 x8 x9 x10 x11 x12 (IntKind.i64.wrap (x13 + 1)) H
theorem q13 P N2 N4 N6 N12 : Q o13 (E k7 N12) k7 (B13 P N2 N4 N6 N12) := fun _ _ _ _ _ _ _ _ _ _ _ => by kernel_rfl
abbrev k8 : Sk := [(1,.v),(2,.x),(7,.v),(8,J),(9,J),(10,J),(11,.v),(13,J)]
def o14 := O 4103227812
def B14 (P : PT) (N2 : Y k1) (N4 : Y k2) (N6 : Y k3) (N12 : Y k7) : Y k8 := fun x1 x2 x7 x8 x9 x10 x11 x13 H =>
  idxK x7 x13 1 (fun b1 o2 => ld1 H b1 o2 (fun v3 => AC Tryz.prog T0 139 [v3, x11] H (fun v4 H5 => asB v4 (fun v6 => B13 P N2 N4 N6 N12 x1 x2 x7 x8 x9 x10 x11 v6 x13 H5))))
theorem q14 P N2 N4 N6 N12 : Q o14 (E k7 (B13 P N2 N4 N6 N12)) k8 (B14 P N2 N4 N6 N12) := fun _ _ _ _ _ _ _ _ _ _ => by kernel_rfl
def o15 := O 2051613904
def B15 (P : PT) (N2 : Y k1) (N4 : Y k2) (N6 : Y k3) (N12 : Y k7) : Y k7 := fun x1 x2 x7 x8 x9 x10 x11 x12 x13 H =>
  lenK x7 (fun n1 => pif (decide ((x13 : Int) < (n1 : Int))) (pif (!x12) (B14 P N2 N4 N6 N12 x1 x2 x7 x8 x9 x10 x11 x13 H) (B11 P N2 N4 N6 x1 x2 x7 x8 x9 x10 x11 x12 H)) (B11 P N2 N4 N6 x1 x2 x7 x8 x9 x10 x11 x12 H))
theorem q15 P N2 N4 N6 N12 : Q o15 (cnd 64 (E k8 (B14 P N2 N4 N6 N12)) (E k6 (B11 P N2 N4 N6))) k7 (B15 P N2 N4 N6 N12) := fun _ _ _ _ _ _ _ _ _ _ _ => by kernel_rfl
def L12 (P : PT) (N2 : Y k1) (N4 : Y k2) (N6 : Y k3) : Y k7 := fun x1 x2 x7 x8 x9 x10 x11 x12 x13 H =>
  ∃ (I : Y k7) (μ : NTy k7 (AHeap → Nat)), I x1 x2 x7 x8 x9 x10 x11 x12 x13 H ∧ ∀ y1 y2 y7 y8 y9 y10 y11 y12 y13 G, I y1 y2 y7 y8 y9 y10 y11 y12 y13 G → B15 P N2 N4 N6 (fun z1 z2 z7 z8 z9 z10 z11 z12 z13 G' => I z1 z2 z7 z8 z9 z10 z11 z12 z13 G' ∧ μ z1 z2 z7 z8 z9 z10 z11 z12 z13 G' < μ y1 y2 y7 y8 y9 y10 y11 y12 y13 G) y1 y2 y7 y8 y9 y10 y11 y12 y13 G
theorem l12 P N2 N4 N6 : LQ k7 (L12 P N2 N4 N6) (B15 P N2 N4 N6) := fun ⟨_,_,_,_,_,_,_,_,_,_⟩ _ ⟨I, μ, h0, hI⟩ => ⟨apT _ I, apT _ μ, h0, fun ⟨_,_,_,_,_,_,_,_,_,_⟩ _ h => hI _ _ _ _ _ _ _ _ _ _  h⟩
def o16 := O 128225868
def B16 (P : PT) (N2 : Y k1) (N4 : Y k2) (N6 : Y k3) : Y k6 := fun x1 x2 x7 x8 x9 x10 x11 x12 H =>
  L12 P N2 N4 N6 x1 x2 x7 x8 x9 x10 x11 x12 0 H
theorem q16 P N2 N4 N6 : Q o16 (E k7 (L12 P N2 N4 N6)) k6 (B16 P N2 N4 N6) := fun _ _ _ _ _ _ _ _ _ _ => by kernel_rfl
def o17 := O 32056466
def B17 (P : PT) (N2 : Y k1) (N4 : Y k2) (N6 : Y k3) : Y k3 := fun x1 x2 x7 x8 x9 x10 H =>
  ldI .i64 H x2 0 (fun v1 => ld1 H x2 1 (fun v2 => idxK x7 x8 1 (fun b3 o4 => ld1 H b3 o4 (fun v5 => AC Tryz.prog T0 129 [(Value.agg ⟨[(Value.int .i64 v1), v2]⟩), v5, (Value.int .i64 x9), (Value.int .i64 x10)] H (fun v6 H7 => B16 P N2 N4 N6 x1 x2 x7 x8 x9 x10 v6 false H7)))))
theorem q17 (P : PT) (N2 : Y k1) (N4 : Y k2) (N6 : Y k3) : QD Tryz.prog T0 84 o17 [(0, false), (1, false), (2, false), (3, false), (4, false), (5, false), (6, false), (7, false), (8, false), (9, false)] (En 84 k6 (B16 P N2 N4 N6)) k3 (B17 P N2 N4 N6) := fun _ _ _ _ _ _ _ _  => by kernel_rfl
def o18 := O 32056464
def B18 (P : PT) (N2 : Y k1) (N4 : Y k2) (N6 : Y k3) : Y k3 := fun x1 x2 x7 x8 x9 x10 H =>
  idxK x7 x8 1 (fun b1 o2 => ld1 H b1 o2 (fun v3 => idxK v3 x9 1 (fun b4 o5 => ldI .i64 H b4 o5 (fun v6 => pif ((v6 : Int) == x10) (B7 P N2 N4 N6 x1 x2 x7 x8 x9 x10 H) (B17 P N2 N4 N6 x1 x2 x7 x8 x9 x10 H)))))
theorem q18 P N2 N4 N6 : Q o18 (cnd 48 (E k3 (B7 P N2 N4 N6)) (E k3 (B17 P N2 N4 N6))) k3 (B18 P N2 N4 N6) := fun _ _ _ _ _ _ _ _ => by kernel_rfl
def o19 := O 4007056
def B19 (P : PT) (N2 : Y k1) (N4 : Y k2) (N6 : Y k3) : Y k3 := fun x1 x2 x7 x8 x9 x10 H =>
  pif (decide ((x10 : Int) < 3)) (B18 P N2 N4 N6 x1 x2 x7 x8 x9 x10 H) (B5 P N2 N4 x1 x2 x7 x8 x9 H)
theorem q19 P N2 N4 N6 : Q o19 (cnd 37 (E k3 (B18 P N2 N4 N6)) (E k2 (B5 P N2 N4))) k3 (B19 P N2 N4 N6) := fun _ _ _ _ _ _ _ _ => by kernel_rfl
def L6 (P : PT) (N2 : Y k1) (N4 : Y k2) : Y k3 := fun x1 x2 x7 x8 x9 x10 H =>
  ∃ (I : Y k3) (μ : NTy k3 (AHeap → Nat)), I x1 x2 x7 x8 x9 x10 H ∧ ∀ y1 y2 y7 y8 y9 y10 G, I y1 y2 y7 y8 y9 y10 G → B19 P N2 N4 (fun z1 z2 z7 z8 z9 z10 G' => I z1 z2 z7 z8 z9 z10 G' ∧ μ z1 z2 z7 z8 z9 z10 G' < μ y1 y2 y7 y8 y9 y10 G) y1 y2 y7 y8 y9 y10 G
theorem l6 P N2 N4 : LQ k3 (L6 P N2 N4) (B19 P N2 N4) := fun ⟨_,_,_,_,_,_,_⟩ _ ⟨I, μ, h0, hI⟩ => ⟨apT _ I, apT _ μ, h0, fun ⟨_,_,_,_,_,_,_⟩ _ h => hI _ _ _ _ _ _ _  h⟩
def o20 := O 250440
def B20 (P : PT) (N2 : Y k1) (N4 : Y k2) : Y k2 := fun x1 x2 x7 x8 x9 H =>
  L6 P N2 N4 x1 x2 x7 x8 x9 0 H
theorem q20 P N2 N4 : Q o20 (E k3 (L6 P N2 N4)) k2 (B20 P N2 N4) := fun _ _ _ _ _ _ _ => by kernel_rfl
def o21 := O 62608
def B21 (P : PT) (N2 : Y k1) (N4 : Y k2) : Y k2 := fun x1 x2 x7 x8 x9 H =>
  lenK x1 (fun n1 => pif (decide ((x9 : Int) < (n1 : Int))) (B20 P N2 N4 x1 x2 x7 x8 x9 H) (B3 P N2 x1 x2 x7 x8 H))
theorem q21 P N2 N4 : Q o21 (cnd 33 (E k2 (B20 P N2 N4)) (E k1 (B3 P N2))) k2 (B21 P N2 N4) := fun _ _ _ _ _ _ _ => by kernel_rfl
def L4 (P : PT) (N2 : Y k1) : Y k2 := fun x1 x2 x7 x8 x9 H =>
  ∃ (I : Y k2) (μ : NTy k2 (AHeap → Nat)), I x1 x2 x7 x8 x9 H ∧ ∀ y1 y2 y7 y8 y9 G, I y1 y2 y7 y8 y9 G → B21 P N2 (fun z1 z2 z7 z8 z9 G' => I z1 z2 z7 z8 z9 G' ∧ μ z1 z2 z7 z8 z9 G' < μ y1 y2 y7 y8 y9 G) y1 y2 y7 y8 y9 G
theorem l4 P N2 : LQ k2 (L4 P N2) (B21 P N2) := fun ⟨_,_,_,_,_,_⟩ _ ⟨I, μ, h0, hI⟩ => ⟨apT _ I, apT _ μ, h0, fun ⟨_,_,_,_,_,_⟩ _ h => hI _ _ _ _ _ _  h⟩
def o22 := O 3912
def B22 (P : PT) (N2 : Y k1) : Y k1 := fun x1 x2 x7 x8 H =>
  L4 P N2 x1 x2 x7 x8 0 H
theorem q22 P N2 : Q o22 (E k2 (L4 P N2)) k1 (B22 P N2) := fun _ _ _ _ _ _ => by kernel_rfl
def o23 := O 976
def B23 (P : PT) (N2 : Y k1) : Y k1 := fun x1 x2 x7 x8 H =>
  lenK x7 (fun n1 => pif (decide ((x8 : Int) < (n1 : Int))) (B22 P N2 x1 x2 x7 x8 H) (B1 P x7 H))
theorem q23 P N2 : Q o23 (cnd 27 (E k1 (B22 P N2)) (E k0 (B1 P))) k1 (B23 P N2) := fun _ _ _ _ _ _ => by kernel_rfl
def L2 (P : PT) : Y k1 := fun x1 x2 x7 x8 H =>
  ∃ (I : Y k1) (μ : NTy k1 (AHeap → Nat)), I x1 x2 x7 x8 H ∧ ∀ y1 y2 y7 y8 G, I y1 y2 y7 y8 G → B23 P (fun z1 z2 z7 z8 G' => I z1 z2 z7 z8 G' ∧ μ z1 z2 z7 z8 G' < μ y1 y2 y7 y8 G) y1 y2 y7 y8 G
theorem l2 P : LQ k1 (L2 P) (B23 P) := fun ⟨_,_,_,_,_⟩ _ ⟨I, μ, h0, hI⟩ => ⟨apT _ I, apT _ μ, h0, fun ⟨_,_,_,_,_⟩ _ h => hI _ _ _ _ _  h⟩
abbrev k9 : Sk := [(1,.v),(2,.x),(7,.v)]
def o24 := O 60
def B24 (P : PT) : Y k9 := fun x1 x2 x7 H =>
  L2 P x1 x2 x7 0 H
theorem q24 P : Q o24 (E k1 (L2 P)) k9 (B24 P) := fun _ _ _ _ _ => by kernel_rfl
abbrev k10 : Sk := [(1,.v),(2,.x)]
def o25 := O 14
def B25 (P : PT) : Y k10 := fun x1 x2 H =>
  AC Tryz.prog T0 138 [x1] H (fun v1 H2 => pif (Value.oneCell' v1) (newK H2 [v1] 28 (fun b4 H5 => B24 P x1 x2 (Value.slice (some ⟨b4, 0, none⟩) 1 (1 + 1)) H5)) False)
theorem q25 P : Q o25 (E k9 (B24 P)) k10 (B25 P) := fun _ _ _ _ => by kernel_rfl
abbrev k11 : Sk := [(6,J)]
def o26 := O 108
def B26 (P : PT) : Y k11 := fun x6 H =>
  P (Value.tuple ⟨[(Value.int .i64 0), (Value.int .i64 x6)]⟩) H
theorem q26 P : Q o26 (ret P) k11 (B26 P) := fun _ _ _ => by kernel_rfl
abbrev k12 : Sk := [(1,.v),(2,.x),(6,J)]
def o27 := O 26
def B27 (P : PT) : Y k12 := fun x1 x2 x6 H =>
  pif ((x6 : Int) != 0) (B26 P x6 H) (B25 P x1 x2 H)
theorem q27 P : Q o27 (cnd 19 (E k11 (B26 P)) (E k10 (B25 P))) k12 (B27 P) := fun _ _ _ _ _ => by kernel_rfl
def o28 := O 12
def B28 (P : PT) : Y k10 := fun x1 x2 H =>
  ldI .i64 H x2 0 (fun v1 => ld1 H x2 1 (fun v2 => pif (Value.oneCell' x1) (newK H [x1] 28 (fun b3 H4 => AC Tryz.prog T0 135 [(Value.agg ⟨[(Value.int .i64 v1), v2]⟩), (Value.slice (some ⟨b3, 0, none⟩) 1 (1 + 1))] H4 (fun v5 H6 => asI .i64 v5 (fun v7 => B27 P x1 x2 v7 H6)))) False))
theorem q28 P : Q o28 (E k12 (B27 P)) k10 (B28 P) := fun _ _ _ _ => by kernel_rfl
abbrev k13 : Sk := [(0,.g [.i,.v]),(1,.v)]
def o29 := O 2
def B29 (P : PT) : Y k13 := fun x0a x0b x1 H =>
  newK H [(Value.int .i64 x0a), x0b] 26 (fun b1 H2 => B28 P x1 b1 H2)
theorem q29 P : Q o29 (E k10 (B28 P)) k13 (B29 P) := fun _ _ _ _ _ => by kernel_rfl
def code : Code := (.seq (R 0 o29) (.seq (.seq (R 1 o28) (.seq (R 2 o27) (.cond (.tmp 19) (.seq (R 3 o26) .ret) .skip))) (.seq (R 4 o25) (.seq (.seq (R 5 o24) (.block 0 (.loop (.seq (.seq (R 6 o23) (.cond (.tmp 27) .skip (.exit 0))) (.seq (.block 1 (.seq (R 8 o22) (.block 2 (.loop (.seq (.seq (R 9 o21) (.cond (.tmp 33) .skip (.exit 2))) (.seq (.block 3 (.seq (R 11 o20) (.block 4 (.loop (.seq (.seq (R 12 o19) (.cond (.tmp 37) .skip (.exit 4))) (.seq (.block 5 (.seq (.seq (R 14 o18) (.cond (.tmp 48) (.exit 5) .skip)) (.seq (.region 15 ⟨o17⟩ true) (.seq (.seq (R 16 o16) (.block 6 (.loop (.seq (.seq (R 17 o15) (.cond (.tmp 64) .skip (.exit 6))) (.seq (.block 7 (R 19 o14)) (R 18 o13)))))) (.seq (.seq (R 20 o11) (.cond (.tmp 74) (R 21 o10) .skip)) (.seq (R 22 o9) (.cond (.tmp 81) (.seq (R 23 o8) .ret) .skip))))))) (R 13 o7))))))) (R 10 o5))))))) (R 7 o3)))))) (.seq (R 24 o1) .ret)))))
theorem body : Tryz.f58.body = some code := by kernel_rfl
theorem main (P : PT) : ∀ env H, (En 84 k13 (B29 P)) env H → AW Tryz.prog T0 code env H (M (ret P)) :=
  (r_seq (b (q29 P)) (r_seq (r_seq (b (q28 P)) (r_seq (b (q27 P)) (r_cond rfl (r_seq (b (q26 P)) r_ret) r_skip))) (r_seq (b (q25 P)) (r_seq (r_seq (b (q24 P)) (r_block (rL (l2 P) (fun N2 => (r_seq (r_seq (b (q23 P N2)) (r_cond rfl r_skip (r_exit (fun _ _ h => h)))) (r_seq (r_block (r_seq (b (q22 P N2)) (r_block (rL (l4 P N2) (fun N4 => (r_seq (r_seq (b (q21 P N2 N4)) (r_cond rfl r_skip (r_exit (fun _ _ h => h)))) (r_seq (r_block (r_seq (b (q20 P N2 N4)) (r_block (rL (l6 P N2 N4) (fun N6 => (r_seq (r_seq (b (q19 P N2 N4 N6)) (r_cond rfl r_skip (r_exit (fun _ _ h => h)))) (r_seq (r_block (r_seq (r_seq (b (q18 P N2 N4 N6)) (r_cond rfl (r_exit (fun _ _ h => h)) r_skip)) (r_seq (rD T0_ok mixed [(0, false), (1, false), (2, false), (3, false), (4, false), (5, false), (6, false), (7, false), (8, false), (9, false)] (by kernel_rfl) (q17 P N2 N4 N6)) (r_seq (r_seq (b (q16 P N2 N4 N6)) (r_block (rL (l12 P N2 N4 N6) (fun N12 => (r_seq (r_seq (b (q15 P N2 N4 N6 N12)) (r_cond rfl r_skip (r_exit (fun _ _ h => h)))) (r_seq (r_block (b (q14 P N2 N4 N6 N12))) (b (q13 P N2 N4 N6 N12)))))))) (r_seq (r_seq (b (q11 P N2 N4 N6)) (r_cond rfl (b (q10 P N2 N4 N6)) r_skip)) (r_seq (b (q9 P N2 N4 N6)) (r_cond rfl (r_seq (b (q8 P N2 N4 N6)) r_ret) r_skip))))))) (b (q7 P N2 N4 N6))))))))) (b (q5 P N2 N4))))))))) (b (q3 P N2)))))))) (r_seq (b (q1 P)) r_ret)))))
theorem ac (P : PT) (x0a : Int) (x0b x1 : Value) (H : AHeap) (h : B29 P x0a x0b x1 H) : AC Tryz.prog T0 58 [(Value.agg ⟨[(Value.int .i64 x0a), x0b]⟩), x1] H P :=
  r_fn T0_ok (c := code) (n := 84) Tryz.func58 body (by kernel_rfl) (main P) (En_mk (x0a, x0b, x1, ()) (by kernel_rfl) ⟨by kernel_rfl, by kernel_rfl, trivial⟩ h)

end F58
namespace F59
abbrev E := En 45
abbrev Q := QB Tryz.prog T0 45
def O (k : Nat) := ob Tryz.f59 (pth k)
def ret (P : PT) : EP := retE T0 45 Tryz.f59 P
abbrev k0 : Sk := [(2,.x),(6,.x),(7,.v),(8,.v)]
def o1 := O 254
def B1 (P : PT) : Y k0 := fun x2 x6 x7 x8 H =>
  ldI .i64 H x6 0 (fun v1 => ld1 H x6 1 (fun v2 => stK H x2 0 [(Value.int .i64 v1), v2] (fun H3 => ldI .i64 H3 x2 0 (fun v4 => ld1 H3 x2 1 (fun v5 => P (Value.tuple ⟨[(Value.agg ⟨[(Value.int .i64 v4), v5]⟩), x7, x8]⟩) H3)))))
theorem q1 P : Q o1 (ret P) k0 (B1 P) := fun _ _ _ _ _ _ => by kernel_rfl
abbrev k1 : Sk := [(2,.x),(5,.v),(6,.x),(7,.v),(8,.v)]
def o2 := O 506
def B2 (P : PT) : Y k1 := fun x2 x5 x6 x7 x8 H =>
  newK H [(Value.int .i64 0), (Value.int .i64 20), (Value.int .i64 (-1))] 2 (fun b1 H2 => AC Tryz.prog T0 83 [x5, (Value.slice (some ⟨b1, 0, none⟩) 3 (3 + 1))] H2 (fun v3 H4 => asI .i64 v3 (fun v5 => newK H4 [(Value.int .i64 v5)] 2 (fun b6 H7 => apK T0 2 H7 x8 (Value.slice (some ⟨b6, 0, none⟩) 1 (1 + 1)) (fun v8 H9 => B1 P x2 x6 x7 v8 H9)))))
theorem q2 P : Q o2 (E k0 (B1 P)) k1 (B2 P) := fun _ _ _ _ _ _ _ => by kernel_rfl
def o3 := O 252
def B3 (P : PT) : Y k1 := fun x2 x5 x6 x7 x8 H =>
  AC Tryz.prog T0 66 [x5, (Value.int .i64 24)] H (fun v1 H2 => asI .i64 v1 (fun v3 => pif ((v3 : Int) == 0) (B2 P x2 x5 x6 x7 x8 H2) (B1 P x2 x6 x7 x8 H2)))
theorem q3 P : Q o3 (cnd 35 (E k1 (B2 P)) (E k0 (B1 P))) k1 (B3 P) := fun _ _ _ _ _ _ _ => by kernel_rfl
abbrev k2 : Sk := [(2,.x),(5,.v),(6,.x),(7,.v),(8,.v),(9,J)]
def o5 := O 2003
def B5 (P : PT) (N4 : Y k2) : Y k2 := fun x2 x5 x6 x7 x8 x9 H =>
  N4 x2 x5 x6 x7 x8 (IntKind.i64.wrap (x9 + 1)) H
theorem q5 P N4 : Q o5 (E k2 N4) k2 (B5 P N4) := fun _ _ _ _ _ _ _ _ => by kernel_rfl
def o6 := O 16018
def B6 (P : PT) (N4 : Y k2) : Y k2 := fun x2 x5 x6 x7 x8 x9 H =>
  newK H [(Value.int .i64 x9)] 2 (fun b1 H2 => apK T0 2 H2 x8 (Value.slice (some ⟨b1, 0, none⟩) 1 (1 + 1)) (fun v3 H4 => B5 P N4 x2 x5 x6 x7 v3 x9 H4))
theorem q6 P N4 : Q o6 (E k2 (B5 P N4)) k2 (B6 P N4) := fun _ _ _ _ _ _ _ _ => by kernel_rfl
def o7 := O 8008
def B7 (P : PT) (N4 : Y k2) : Y k2 := fun x2 x5 x6 x7 x8 x9 H =>
  AC Tryz.prog T0 66 [x5, (Value.int .i64 2)] H (fun v1 H2 => asI .i64 v1 (fun v3 => pif ((v3 : Int) == 0) (B6 P N4 x2 x5 x6 x7 x8 x9 H2) (B5 P N4 x2 x5 x6 x7 x8 x9 H2)))
theorem q7 P N4 : Q o7 (cnd 28 (E k2 (B6 P N4)) (E k2 (B5 P N4))) k2 (B7 P N4) := fun _ _ _ _ _ _ _ _ => by kernel_rfl
def o8 := O 2000
def B8 (P : PT) (N4 : Y k2) : Y k2 := fun x2 x5 x6 x7 x8 x9 H =>
  ldI .i64 H x6 0 (fun v1 => pif (decide ((x9 : Int) < (if 20 < (if 0 > v1 then 0 else v1) then 20 else if 0 > v1 then 0 else v1))) (B7 P N4 x2 x5 x6 x7 x8 x9 H) (B3 P x2 x5 x6 x7 x8 H))
theorem q8 P N4 : Q o8 (cnd 23 (E k2 (B7 P N4)) (E k1 (B3 P))) k2 (B8 P N4) := fun _ _ _ _ _ _ _ _ => by kernel_rfl
def L4 (P : PT) : Y k2 := fun x2 x5 x6 x7 x8 x9 H =>
  ∃ (I : Y k2) (μ : NTy k2 (AHeap → Nat)), I x2 x5 x6 x7 x8 x9 H ∧ ∀ y2 y5 y6 y7 y8 y9 G, I y2 y5 y6 y7 y8 y9 G → B8 P (fun z2 z5 z6 z7 z8 z9 G' => I z2 z5 z6 z7 z8 z9 G' ∧ μ z2 z5 z6 z7 z8 z9 G' < μ y2 y5 y6 y7 y8 y9 G) y2 y5 y6 y7 y8 y9 G
theorem l4 P : LQ k2 (L4 P) (B8 P) := fun ⟨_,_,_,_,_,_,_⟩ _ ⟨I, μ, h0, hI⟩ => ⟨apT _ I, apT _ μ, h0, fun ⟨_,_,_,_,_,_,_⟩ _ h => hI _ _ _ _ _ _ _  h⟩
def o9 := O 124
def B9 (P : PT) : Y k1 := fun x2 x5 x6 x7 x8 H =>
  L4 P x2 x5 x6 x7 x8 0 H
theorem q9 P : Q o9 (E k2 (L4 P)) k1 (B9 P) := fun _ _ _ _ _ _ _ => by kernel_rfl
abbrev k3 : Sk := [(2,.x),(5,.v),(6,.x)]
def o10 := O 30
def B10 (P : PT) : Y k3 := fun x2 x5 x6 H =>
  ldI .i64 H x6 0 (fun v1 => ld1 H x6 1 (fun v2 => AC Tryz.prog T0 136 [x5, (Value.agg ⟨[(Value.int .i64 v1), v2]⟩)] H (fun v3 H4 => newK H4 [] 2 (fun b6 H7 => B9 P x2 x5 x6 v3 (Value.slice (some ⟨b6, 0, none⟩) 0 (0 + 1)) H7))))
theorem q10 P : Q o10 (E k1 (B9 P)) k3 (B10 P) := fun _ _ _ _ _ => by kernel_rfl
abbrev k4 : Sk := [(2,.x),(5,.v)]
def o11 := O 14
def B11 (P : PT) : Y k4 := fun x2 x5 H =>
  AC Tryz.prog T0 71 [x5] H (fun v1 H2 => agg2 v1 (fun v3 v4 => asI .i64 v3 (fun v5 => newK H2 [(Value.int .i64 0), (Value.slice none 0 0)] 26 (fun b7 H8 => stK H8 b7 0 [(Value.int .i64 v5), v4] (fun H9 => B10 P x2 x5 b7 H9)))))
theorem q11 P : Q o11 (E k3 (B10 P)) k4 (B11 P) := fun _ _ _ _ => by kernel_rfl
abbrev k5 : Sk := [(0,.v),(2,.x)]
def o12 := O 6
def B12 (P : PT) : Y k5 := fun x0 x2 H =>
  AC Tryz.prog T0 65 [x0] H (fun v1 H2 => B11 P x2 v1 H2)
theorem q12 P : Q o12 (E k4 (B11 P)) k5 (B12 P) := fun _ _ _ _ => by kernel_rfl
abbrev k6 : Sk := [(0,.v)]
def o13 := O 2
def B13 (P : PT) : Y k6 := fun x0 H =>
  newK H [(Value.int .i64 0), (Value.slice none 0 0)] 26 (fun b1 H2 => B12 P x0 b1 H2)
theorem q13 P : Q o13 (E k5 (B12 P)) k6 (B13 P) := fun _ _ _ => by kernel_rfl
def code : Code := (.seq (R 0 o13) (.seq (R 1 o12) (.seq (R 2 o11) (.seq (R 3 o10) (.seq (.seq (R 4 o9) (.block 0 (.loop (.seq (.seq (R 5 o8) (.cond (.tmp 23) .skip (.exit 0))) (.seq (.block 1 (.seq (R 7 o7) (.cond (.tmp 28) (R 8 o6) .skip))) (R 6 o5)))))) (.seq (.seq (R 9 o3) (.cond (.tmp 35) (R 10 o2) .skip)) (.seq (R 11 o1) .ret)))))))
theorem body : Tryz.f59.body = some code := by kernel_rfl
theorem main (P : PT) : ∀ env H, (En 45 k6 (B13 P)) env H → AW Tryz.prog T0 code env H (M (ret P)) :=
  (r_seq (b (q13 P)) (r_seq (b (q12 P)) (r_seq (b (q11 P)) (r_seq (b (q10 P)) (r_seq (r_seq (b (q9 P)) (r_block (rL (l4 P) (fun N4 => (r_seq (r_seq (b (q8 P N4)) (r_cond rfl r_skip (r_exit (fun _ _ h => h)))) (r_seq (r_block (r_seq (b (q7 P N4)) (r_cond rfl (b (q6 P N4)) r_skip))) (b (q5 P N4)))))))) (r_seq (r_seq (b (q3 P)) (r_cond rfl (b (q2 P)) r_skip)) (r_seq (b (q1 P)) r_ret)))))))
theorem ac (P : PT) (x0 : Value) (H : AHeap) (h : B13 P x0 H) : AC Tryz.prog T0 59 [x0] H P :=
  r_fn T0_ok (c := code) (n := 45) Tryz.func59 body (by kernel_rfl) (main P) (En_mk (x0, ()) (by kernel_rfl) ⟨by kernel_rfl, trivial⟩ h)

end F59
namespace F60
abbrev E := En 47
abbrev Q := QB Tryz.prog T0 47
def O (k : Nat) := ob Tryz.f60 (pth k)
def ret (P : PT) : EP := retE T0 47 Tryz.f60 P
abbrev k0 : Sk := [(9,.v)]
def o1 := O 62
def B1 (P : PT) : Y k0 := fun x9 H =>
  P (Value.tuple ⟨[x9, (Value.int .i64 0)]⟩) H
theorem q1 P : Q o1 (ret P) k0 (B1 P) := fun _ _ _ => by kernel_rfl
abbrev k1 : Sk := [(1,.v),(9,.v),(30,.v),(31,J),(32,J)]
def o3 := O 1959
def B3 (P : PT) (N2 : Y k1) : Y k1 := fun x1 x9 x30 x31 x32 H =>
  N2 x1 x9 x30 x31 (IntKind.i64.wrap (x32 + 1)) H
theorem q3 P N2 : Q o3 (E k1 N2) k1 (B3 P N2) := fun _ _ _ _ _ _ _ => by kernel_rfl
abbrev k2 : Sk := [(1,.v),(9,.v),(11,J),(30,.v),(31,J),(32,J)]
def o4 := O 7833
def B4 (P : PT) (N2 : Y k1) : Y k2 := fun x1 x9 x11 x30 x31 x32 H =>
  idxK x1 x11 1 (fun b1 o2 => ldI .i64 H b1 o2 (fun v3 => idxK x9 v3 1 (fun b4 o5 => ldI .i64 H b4 o5 (fun v6 => idxK x9 v3 1 (fun b7 o8 => stK H b7 o8 [(Value.int .i64 (IntKind.i64.wrap (v6 + 1)))] (fun H9 => B3 P N2 x1 x9 x30 x31 x32 H9))))))
theorem q4 P N2 : Q o4 (E k1 (B3 P N2)) k2 (B4 P N2) := fun _ _ _ _ _ _ _ _ => by kernel_rfl
def o5 := O 7832
def B5 (P : PT) (N2 : Y k1) : Y k1 := fun x1 x9 x30 x31 x32 H =>
  idxK x30 x32 1 (fun b1 o2 => ldI .i64 H b1 o2 (fun v3 => B4 P N2 x1 x9 v3 x30 x31 x32 H))
theorem q5 P N2 : Q o5 (E k2 (B4 P N2)) k1 (B5 P N2) := fun _ _ _ _ _ _ _ => by kernel_rfl
def o6 := O 488
def B6 (P : PT) (N2 : Y k1) : Y k1 := fun x1 x9 x30 x31 x32 H =>
  pif (decide ((x32 : Int) < x31)) (B5 P N2 x1 x9 x30 x31 x32 H) (B1 P x9 H)
theorem q6 P N2 : Q o6 (cnd 33 (E k1 (B5 P N2)) (E k0 (B1 P))) k1 (B6 P N2) := fun _ _ _ _ _ _ _ => by kernel_rfl
def L2 (P : PT) : Y k1 := fun x1 x9 x30 x31 x32 H =>
  ∃ (I : Y k1) (μ : NTy k1 (AHeap → Nat)), I x1 x9 x30 x31 x32 H ∧ ∀ y1 y9 y30 y31 y32 G, I y1 y9 y30 y31 y32 G → B6 P (fun z1 z9 z30 z31 z32 G' => I z1 z9 z30 z31 z32 G' ∧ μ z1 z9 z30 z31 z32 G' < μ y1 y9 y30 y31 y32 G) y1 y9 y30 y31 y32 G
theorem l2 P : LQ k1 (L2 P) (B6 P) := fun ⟨_,_,_,_,_,_⟩ _ ⟨I, μ, h0, hI⟩ => ⟨apT _ I, apT _ μ, h0, fun ⟨_,_,_,_,_,_⟩ _ h => hI _ _ _ _ _ _  h⟩
abbrev k3 : Sk := [(1,.v),(2,.v),(3,.x),(9,.v)]
def o7 := O 60
def B7 (P : PT) : Y k3 := fun x1 x2 x3 x9 H =>
  ldI .i64 H x3 0 (fun v1 => ld1 H x3 1 (fun v2 => AC Tryz.prog T0 89 [x2] H (fun v3 H4 => asI .u64 v3 (fun v5 => (AHeap.le H H4) ∧ (AC Tryz.prog T0 99 [(Value.agg ⟨[(Value.int .i64 v1), v2]⟩), (Value.int .u64 v5)] H4 (fun v6 H7 => lenK v6 (fun n9 => L2 P x1 x9 v6 (n9 : Int) 0 H7)))))))
theorem q7 (P : PT) : QD Tryz.prog T0 47 o7 [(0, false), (1, false), (5, false), (2, true), (3, false), (4, false)] (En 47 k1 (L2 P)) k3 (B7 P) := fun _ _ _ _ _ _  => by kernel_rfl
abbrev k4 : Sk := [(1,.v),(2,.v),(3,.x)]
def o8 := O 14
def B8 (P : PT) : Y k4 := fun x1 x2 x3 H =>
  mkR H 8 2 [(Value.int .i64 0)] 3 3 (fun v2 H1 => B7 P x1 x2 x3 v2 H1)
theorem q8 P : Q o8 (E k3 (B7 P)) k4 (B8 P) := fun _ _ _ _ _ => by kernel_rfl
abbrev k5 : Sk := [(8,J)]
def o9 := O 108
def B9 (P : PT) : Y k5 := fun x8 H =>
  P (Value.tuple ⟨[(Value.slice none 0 0), (Value.int .i64 x8)]⟩) H
theorem q9 P : Q o9 (ret P) k5 (B9 P) := fun _ _ _ => by kernel_rfl
abbrev k6 : Sk := [(1,.v),(2,.v),(3,.x),(8,J)]
def o10 := O 26
def B10 (P : PT) : Y k6 := fun x1 x2 x3 x8 H =>
  pif ((x8 : Int) != 0) (B9 P x8 H) (B8 P x1 x2 x3 H)
theorem q10 P : Q o10 (cnd 24 (E k5 (B9 P)) (E k4 (B8 P))) k6 (B10 P) := fun _ _ _ _ _ _ => by kernel_rfl
def o11 := O 12
def B11 (P : PT) : Y k4 := fun x1 x2 x3 H =>
  ldI .i64 H x3 0 (fun v1 => ld1 H x3 1 (fun v2 => ldI .i64 H x3 0 (fun v3 => ld1 H x3 1 (fun v4 => AC Tryz.prog T0 133 [(Value.agg ⟨[(Value.int .i64 v3), v4]⟩), x1] H (fun v5 H6 => asB v5 (fun v7 => (AHeap.le H H6) ∧ (pif v7 (ldI .i64 H6 x3 0 (fun v8 => AC Tryz.prog T0 98 [x2, (Value.int .i64 v8)] H6 (fun v9 H10 => asB v9 (fun v11 => (AHeap.le H6 H10) ∧ (AC Tryz.prog T0 72 [(Value.agg ⟨[(Value.int .i64 v1), v2]⟩), (Value.bool v11)] H10 (fun v12 H13 => asI .i64 v12 (fun v14 => B10 P x1 x2 x3 v14 H13))))))) (AC Tryz.prog T0 72 [(Value.agg ⟨[(Value.int .i64 v1), v2]⟩), (Value.bool false)] H6 (fun v15 H16 => asI .i64 v15 (fun v17 => B10 P x1 x2 x3 v17 H16))))))))))
theorem q11 (P : PT) : QD Tryz.prog T0 47 o11 [(0, false), (1, false), (2, false), (3, true), (4, false), (5, false), (6, false), (7, false), (8, true), (9, false), (10, false), (11, false)] (En 47 k6 (B10 P)) k4 (B11 P) := fun _ _ _ _ _  => by kernel_rfl
abbrev k7 : Sk := [(0,.g [.i,.v]),(1,.v),(2,.v)]
def o12 := O 2
def B12 (P : PT) : Y k7 := fun x0a x0b x1 x2 H =>
  newK H [(Value.int .i64 x0a), x0b] 26 (fun b1 H2 => B11 P x1 x2 b1 H2)
theorem q12 P : Q o12 (E k4 (B11 P)) k7 (B12 P) := fun _ _ _ _ _ _ => by kernel_rfl
def code : Code := (.seq (R 0 o12) (.seq (.seq (.region 1 ⟨o11⟩ true) (.seq (R 2 o10) (.cond (.tmp 24) (.seq (R 3 o9) .ret) .skip))) (.seq (R 4 o8) (.seq (.seq (.region 5 ⟨o7⟩ true) (.block 0 (.loop (.seq (R 6 o6) (.seq (.cond (.tmp 33) .skip (.exit 0)) (.seq (.block 1 (.seq (R 7 o5) (R 8 o4))) (R 9 o3))))))) (.seq (R 10 o1) .ret)))))
theorem body : Tryz.f60.body = some code := by kernel_rfl
theorem main (P : PT) : ∀ env H, (En 47 k7 (B12 P)) env H → AW Tryz.prog T0 code env H (M (ret P)) :=
  (r_seq (b (q12 P)) (r_seq (r_seq (rD T0_ok mixed [(0, false), (1, false), (2, false), (3, true), (4, false), (5, false), (6, false), (7, false), (8, true), (9, false), (10, false), (11, false)] (by kernel_rfl) (q11 P)) (r_seq (b (q10 P)) (r_cond rfl (r_seq (b (q9 P)) r_ret) r_skip))) (r_seq (b (q8 P)) (r_seq (r_seq (rD T0_ok mixed [(0, false), (1, false), (5, false), (2, true), (3, false), (4, false)] (by kernel_rfl) (q7 P)) (r_block (rL (l2 P) (fun N2 => (r_seq (b (q6 P N2)) (r_seq (r_cond rfl r_skip (r_exit (fun _ _ h => h))) (r_seq (r_block (r_seq (b (q5 P N2)) (b (q4 P N2)))) (b (q3 P N2))))))))) (r_seq (b (q1 P)) r_ret)))))
theorem ac (P : PT) (x0a : Int) (x0b x1 x2 : Value) (H : AHeap) (h : B12 P x0a x0b x1 x2 H) : AC Tryz.prog T0 60 [(Value.agg ⟨[(Value.int .i64 x0a), x0b]⟩), x1, x2] H P :=
  r_fn T0_ok (c := code) (n := 47) Tryz.func60 body (by kernel_rfl) (main P) (En_mk (x0a, x0b, x1, x2, ()) (by kernel_rfl) ⟨by kernel_rfl, by kernel_rfl, by kernel_rfl, trivial⟩ h)

end F60
namespace F61
abbrev E := En 96
abbrev Q := QB Tryz.prog T0 96
def O (k : Nat) := ob Tryz.f61 (pth k)
def ret (P : PT) : EP := retE T0 96 Tryz.f61 P
abbrev k0 : Sk := [(11,.v)]
def o1 := O 254
def B1 (P : PT) : Y k0 := fun x11 H =>
  P (Value.tuple ⟨[x11, (Value.int .i64 0)]⟩) H
theorem q1 P : Q o1 (ret P) k0 (B1 P) := fun _ _ _ => by kernel_rfl
abbrev k1 : Sk := [(1,.v),(3,.x),(9,.v),(11,.v),(12,J)]
def o3 := O 4051
def B3 (P : PT) (N2 : Y k1) : Y k1 := fun x1 x3 x9 x11 x12 H =>
  N2 x1 x3 x9 x11 (IntKind.i64.wrap (x12 + 1)) H
theorem q3 P N2 : Q o3 (E k1 N2) k1 (B3 P N2) := fun _ _ _ _ _ _ _ => by kernel_rfl
def o4 := O 32402
def B4 (P : PT) (N2 : Y k1) : Y k1 := fun x1 x3 x9 x11 x12 H =>
  idxK x1 x12 1 (fun b1 o2 => ldI .i64 H b1 o2 (fun v3 => idxK x11 v3 1 (fun b4 o5 => ldI .i64 H b4 o5 (fun v6 => idxK x11 v3 1 (fun b7 o8 => stK H b7 o8 [(Value.int .i64 (IntKind.i64.wrap (v6 + 1)))] (fun H9 => B3 P N2 x1 x3 x9 x11 x12 H9))))))
theorem q4 P N2 : Q o4 (E k1 (B3 P N2)) k1 (B4 P N2) := fun _ _ _ _ _ _ _ => by kernel_rfl
def o5 := O 16200
def B5 (P : PT) (N2 : Y k1) : Y k1 := fun x1 x3 x9 x11 x12 H =>
  ld1 H x3 1 (fun v1 => idxK v1 x12 2 (fun b2 o3 => ldI .i64 H b2 o3 (fun v4 => idxK x9 v4 1 (fun b5 o6 => ld1 H b5 o6 (fun v8 => asB v8 (fun v7 => ld1 H x3 1 (fun v9 => idxK v9 x12 2 (fun b10 o11 => ldI .i64 H b10 (o11 + 1) (fun v12 => idxK x9 v12 1 (fun b13 o14 => ld1 H b13 o14 (fun v16 => asB v16 (fun v15 => pif (!(v7 == v15)) (B4 P N2 x1 x3 x9 x11 x12 H) (B3 P N2 x1 x3 x9 x11 x12 H)))))))))))))
theorem q5 (P : PT) (N2 : Y k1) : QD Tryz.prog T0 96 o5 [(0, false), (1, false), (2, false), (3, false), (4, false), (5, false), (6, false), (7, false), (8, false), (9, false), (10, false), (11, false), (12, false), (13, false), (14, false), (15, false), (16, false), (17, false), (18, false)] (cnd 85 (En 96 k1 (B4 P N2)) (En 96 k1 (B3 P N2))) k1 (B5 P N2) := fun _ _ _ _ _ _ _  => by kernel_rfl
def o6 := O 4048
def B6 (P : PT) (N2 : Y k1) : Y k1 := fun x1 x3 x9 x11 x12 H =>
  lenK x1 (fun n1 => pif (decide ((x12 : Int) < (n1 : Int))) (B5 P N2 x1 x3 x9 x11 x12 H) (B1 P x11 H))
theorem q6 P N2 : Q o6 (cnd 64 (E k1 (B5 P N2)) (E k0 (B1 P))) k1 (B6 P N2) := fun _ _ _ _ _ _ _ => by kernel_rfl
def L2 (P : PT) : Y k1 := fun x1 x3 x9 x11 x12 H =>
  ∃ (I : Y k1) (μ : NTy k1 (AHeap → Nat)), I x1 x3 x9 x11 x12 H ∧ ∀ y1 y3 y9 y11 y12 G, I y1 y3 y9 y11 y12 G → B6 P (fun z1 z3 z9 z11 z12 G' => I z1 z3 z9 z11 z12 G' ∧ μ z1 z3 z9 z11 z12 G' < μ y1 y3 y9 y11 y12 G) y1 y3 y9 y11 y12 G
theorem l2 P : LQ k1 (L2 P) (B6 P) := fun ⟨_,_,_,_,_,_⟩ _ ⟨I, μ, h0, hI⟩ => ⟨apT _ I, apT _ μ, h0, fun ⟨_,_,_,_,_,_⟩ _ h => hI _ _ _ _ _ _  h⟩
abbrev k2 : Sk := [(1,.v),(3,.x),(9,.v),(11,.v)]
def o7 := O 252
def B7 (P : PT) : Y k2 := fun x1 x3 x9 x11 H =>
  L2 P x1 x3 x9 x11 0 H
theorem q7 P : Q o7 (E k1 (L2 P)) k2 (B7 P) := fun _ _ _ _ _ _ => by kernel_rfl
abbrev k3 : Sk := [(1,.v),(3,.x),(9,.v)]
def o8 := O 62
def B8 (P : PT) : Y k3 := fun x1 x3 x9 H =>
  mkR H 8 2 [(Value.int .i64 0)] 3 3 (fun v2 H1 => B7 P x1 x3 x9 v2 H1)
theorem q8 P : Q o8 (E k2 (B7 P)) k3 (B8 P) := fun _ _ _ _ _ => by kernel_rfl
abbrev k4 : Sk := [(1,.v),(2,.v),(3,.x),(9,.v),(10,J)]
def o10 := O 979
def B10 (P : PT) (N9 : Y k4) : Y k4 := fun x1 x2 x3 x9 x10 H =>
  N9 x1 x2 x3 x9 (IntKind.i64.wrap (x10 + 1)) H
theorem q10 P N9 : Q o10 (E k4 N9) k4 (B10 P N9) := fun _ _ _ _ _ _ _ => by kernel_rfl
def o11 := O 3913
def B11 (P : PT) (N9 : Y k4) : Y k4 := fun x1 x2 x3 x9 x10 H =>
  idxK x2 x10 1 (fun b1 o2 => ldI .i64 H b1 o2 (fun v3 => idxK x9 v3 1 (fun b4 o5 => stK H b4 o5 [(Value.bool true)] (fun H6 => B10 P N9 x1 x2 x3 x9 x10 H6))))
theorem q11 P N9 : Q o11 (E k4 (B10 P N9)) k4 (B11 P N9) := fun _ _ _ _ _ _ _ => by kernel_rfl
abbrev k5 : Sk := []
def o12 := O 31300
def B12 (P : PT) (N9 : Y k4) : Y k5 := fun H =>
  P (Value.tuple ⟨[(Value.slice none 0 0), (Value.int .i64 2)]⟩) H
theorem q12 P N9 : Q o12 (ret P) k5 (B12 P N9) := fun _ _ => by kernel_rfl
def o13 := O 7824
def B13 (P : PT) (N9 : Y k4) : Y k4 := fun x1 x2 x3 x9 x10 H =>
  idxK x2 x10 1 (fun b1 o2 => ldI .i64 H b1 o2 (fun v3 => ldI .i64 H x3 0 (fun v4 => AC Tryz.prog T0 85 [(Value.int .i64 v3), (Value.int .i64 0), (Value.int .i64 (IntKind.i64.wrap (v4 - 1)))] H (fun v5 H6 => asB v5 (fun v7 => pif (!v7) (B12 P N9 H6) (pif (decide ((x10 : Int) > 0)) (idxK x2 x10 1 (fun b8 o9 => ldI .i64 H6 b8 o9 (fun v10 => idxK x2 (IntKind.i64.wrap (x10 - 1)) 1 (fun b11 o12 => ldI .i64 H6 b11 o12 (fun v13 => pif (decide ((v10 : Int) ≤ v13)) (B12 P N9 H6) (B11 P N9 x1 x2 x3 x9 x10 H6)))))) (B11 P N9 x1 x2 x3 x9 x10 H6)))))))
theorem q13 (P : PT) (N9 : Y k4) : QD Tryz.prog T0 96 o13 [(0, false), (1, false), (2, false), (3, false), (4, false), (5, false), (6, false), (7, false), (8, false), (9, false), (10, false), (11, false), (12, false), (13, false), (14, false), (15, false), (16, false), (17, false), (18, false), (19, false), (20, false), (21, false), (22, false), (23, false), (24, false)] (cnd 53 (En 96 k5 (B12 P N9)) (En 96 k4 (B11 P N9))) k4 (B13 P N9) := fun _ _ _ _ _ _ _  => by kernel_rfl
def o14 := O 976
def B14 (P : PT) (N9 : Y k4) : Y k4 := fun x1 x2 x3 x9 x10 H =>
  lenK x2 (fun n1 => pif (decide ((x10 : Int) < (n1 : Int))) (B13 P N9 x1 x2 x3 x9 x10 H) (B8 P x1 x3 x9 H))
theorem q14 P N9 : Q o14 (cnd 26 (E k4 (B13 P N9)) (E k3 (B8 P))) k4 (B14 P N9) := fun _ _ _ _ _ _ _ => by kernel_rfl
def L9 (P : PT) : Y k4 := fun x1 x2 x3 x9 x10 H =>
  ∃ (I : Y k4) (μ : NTy k4 (AHeap → Nat)), I x1 x2 x3 x9 x10 H ∧ ∀ y1 y2 y3 y9 y10 G, I y1 y2 y3 y9 y10 G → B14 P (fun z1 z2 z3 z9 z10 G' => I z1 z2 z3 z9 z10 G' ∧ μ z1 z2 z3 z9 z10 G' < μ y1 y2 y3 y9 y10 G) y1 y2 y3 y9 y10 G
theorem l9 P : LQ k4 (L9 P) (B14 P) := fun ⟨_,_,_,_,_,_⟩ _ ⟨I, μ, h0, hI⟩ => ⟨apT _ I, apT _ μ, h0, fun ⟨_,_,_,_,_,_⟩ _ h => hI _ _ _ _ _ _  h⟩
abbrev k6 : Sk := [(1,.v),(2,.v),(3,.x),(9,.v)]
def o15 := O 60
def B15 (P : PT) : Y k6 := fun x1 x2 x3 x9 H =>
  L9 P x1 x2 x3 x9 0 H
theorem q15 P : Q o15 (E k4 (L9 P)) k6 (B15 P) := fun _ _ _ _ _ _ => by kernel_rfl
abbrev k7 : Sk := [(1,.v),(2,.v),(3,.x)]
def o16 := O 14
def B16 (P : PT) : Y k7 := fun x1 x2 x3 H =>
  ldI .i64 H x3 0 (fun v1 => mkR H 1 4 [(Value.bool false)] v1 v1 (fun v3 H2 => B15 P x1 x2 x3 v3 H2))
theorem q16 P : Q o16 (E k6 (B15 P)) k7 (B16 P) := fun _ _ _ _ _ => by kernel_rfl
abbrev k8 : Sk := [(8,J)]
def o17 := O 108
def B17 (P : PT) : Y k8 := fun x8 H =>
  P (Value.tuple ⟨[(Value.slice none 0 0), (Value.int .i64 x8)]⟩) H
theorem q17 P : Q o17 (ret P) k8 (B17 P) := fun _ _ _ => by kernel_rfl
abbrev k9 : Sk := [(1,.v),(2,.v),(3,.x),(8,J)]
def o18 := O 26
def B18 (P : PT) : Y k9 := fun x1 x2 x3 x8 H =>
  pif ((x8 : Int) != 0) (B17 P x8 H) (B16 P x1 x2 x3 H)
theorem q18 P : Q o18 (cnd 18 (E k8 (B17 P)) (E k7 (B16 P))) k9 (B18 P) := fun _ _ _ _ _ _ => by kernel_rfl
def o19 := O 12
def B19 (P : PT) : Y k7 := fun x1 x2 x3 H =>
  ldI .i64 H x3 0 (fun v1 => ld1 H x3 1 (fun v2 => pif (Value.oneCell' x1) (newK H [x1] 28 (fun b3 H4 => AC Tryz.prog T0 135 [(Value.agg ⟨[(Value.int .i64 v1), v2]⟩), (Value.slice (some ⟨b3, 0, none⟩) 1 (1 + 1))] H4 (fun v5 H6 => asI .i64 v5 (fun v7 => B18 P x1 x2 x3 v7 H6)))) False))
theorem q19 P : Q o19 (E k9 (B18 P)) k7 (B19 P) := fun _ _ _ _ _ => by kernel_rfl
abbrev k10 : Sk := [(0,.g [.i,.v]),(1,.v),(2,.v)]
def o20 := O 2
def B20 (P : PT) : Y k10 := fun x0a x0b x1 x2 H =>
  newK H [(Value.int .i64 x0a), x0b] 26 (fun b1 H2 => B19 P x1 x2 b1 H2)
theorem q20 P : Q o20 (E k7 (B19 P)) k10 (B20 P) := fun _ _ _ _ _ _ => by kernel_rfl
def code : Code := (.seq (R 0 o20) (.seq (.seq (R 1 o19) (.seq (R 2 o18) (.cond (.tmp 18) (.seq (R 3 o17) .ret) .skip))) (.seq (R 4 o16) (.seq (.seq (R 5 o15) (.block 0 (.loop (.seq (.seq (R 6 o14) (.cond (.tmp 26) .skip (.exit 0))) (.seq (.block 1 (.seq (.seq (.region 8 ⟨o13⟩ true) (.cond (.tmp 53) (.seq (R 9 o12) .ret) .skip)) (R 10 o11))) (R 7 o10)))))) (.seq (R 11 o8) (.seq (.seq (R 12 o7) (.block 2 (.loop (.seq (.seq (R 13 o6) (.cond (.tmp 64) .skip (.exit 2))) (.seq (.block 3 (.seq (.region 15 ⟨o5⟩ true) (.cond (.tmp 85) (R 16 o4) .skip))) (R 14 o3)))))) (.seq (R 17 o1) .ret)))))))
theorem body : Tryz.f61.body = some code := by kernel_rfl
theorem main (P : PT) : ∀ env H, (En 96 k10 (B20 P)) env H → AW Tryz.prog T0 code env H (M (ret P)) :=
  (r_seq (b (q20 P)) (r_seq (r_seq (b (q19 P)) (r_seq (b (q18 P)) (r_cond rfl (r_seq (b (q17 P)) r_ret) r_skip))) (r_seq (b (q16 P)) (r_seq (r_seq (b (q15 P)) (r_block (rL (l9 P) (fun N9 => (r_seq (r_seq (b (q14 P N9)) (r_cond rfl r_skip (r_exit (fun _ _ h => h)))) (r_seq (r_block (r_seq (r_seq (rD T0_ok mixed [(0, false), (1, false), (2, false), (3, false), (4, false), (5, false), (6, false), (7, false), (8, false), (9, false), (10, false), (11, false), (12, false), (13, false), (14, false), (15, false), (16, false), (17, false), (18, false), (19, false), (20, false), (21, false), (22, false), (23, false), (24, false)] (by kernel_rfl) (q13 P N9)) (r_cond rfl (r_seq (b (q12 P N9)) r_ret) r_skip)) (b (q11 P N9)))) (b (q10 P N9)))))))) (r_seq (b (q8 P)) (r_seq (r_seq (b (q7 P)) (r_block (rL (l2 P) (fun N2 => (r_seq (r_seq (b (q6 P N2)) (r_cond rfl r_skip (r_exit (fun _ _ h => h)))) (r_seq (r_block (r_seq (rD T0_ok mixed [(0, false), (1, false), (2, false), (3, false), (4, false), (5, false), (6, false), (7, false), (8, false), (9, false), (10, false), (11, false), (12, false), (13, false), (14, false), (15, false), (16, false), (17, false), (18, false)] (by kernel_rfl) (q5 P N2)) (r_cond rfl (b (q4 P N2)) r_skip))) (b (q3 P N2)))))))) (r_seq (b (q1 P)) r_ret)))))))
theorem ac (P : PT) (x0a : Int) (x0b x1 x2 : Value) (H : AHeap) (h : B20 P x0a x0b x1 x2 H) : AC Tryz.prog T0 61 [(Value.agg ⟨[(Value.int .i64 x0a), x0b]⟩), x1, x2] H P :=
  r_fn T0_ok (c := code) (n := 96) Tryz.func61 body (by kernel_rfl) (main P) (En_mk (x0a, x0b, x1, x2, ()) (by kernel_rfl) ⟨by kernel_rfl, by kernel_rfl, by kernel_rfl, trivial⟩ h)

end F61
namespace F62
abbrev E := En 12
abbrev Q := QB Tryz.prog T0 12
def O (k : Nat) := ob Tryz.f62 (pth k)
def ret (P : PT) : EP := retE T0 12 Tryz.f62 P
abbrev k0 : Sk := [(1,.x)]
def o1 := O 14
def B1 (P : PT) : Y k0 := fun x1 H =>
  ldI .i64 H x1 0 (fun v1 => ld1 H x1 1 (fun v2 => AC Tryz.prog T0 140 [(Value.agg ⟨[(Value.int .i64 v1), v2]⟩)] H (fun v3 H4 => asI .i64 v3 (fun v5 => P (Value.tuple ⟨[(Value.int .i64 v5), (Value.int .i64 0)]⟩) H4))))
theorem q1 P : Q o1 (ret P) k0 (B1 P) := fun _ _ _ => by kernel_rfl
abbrev k1 : Sk := [(4,J)]
def o2 := O 108
def B2 (P : PT) : Y k1 := fun x4 H =>
  P (Value.tuple ⟨[(Value.int .i64 0), (Value.int .i64 x4)]⟩) H
theorem q2 P : Q o2 (ret P) k1 (B2 P) := fun _ _ _ => by kernel_rfl
abbrev k2 : Sk := [(1,.x),(4,J)]
def o3 := O 26
def B3 (P : PT) : Y k2 := fun x1 x4 H =>
  pif ((x4 : Int) != 0) (B2 P x4 H) (B1 P x1 H)
theorem q3 P : Q o3 (cnd 8 (E k1 (B2 P)) (E k0 (B1 P))) k2 (B3 P) := fun _ _ _ _ => by kernel_rfl
def o4 := O 12
def B4 (P : PT) : Y k0 := fun x1 H =>
  ldI .i64 H x1 0 (fun v1 => ld1 H x1 1 (fun v2 => AC Tryz.prog T0 72 [(Value.agg ⟨[(Value.int .i64 v1), v2]⟩), (Value.bool true)] H (fun v3 H4 => asI .i64 v3 (fun v5 => B3 P x1 v5 H4))))
theorem q4 P : Q o4 (E k2 (B3 P)) k0 (B4 P) := fun _ _ _ => by kernel_rfl
abbrev k3 : Sk := [(0,.g [.i,.v])]
def o5 := O 2
def B5 (P : PT) : Y k3 := fun x0a x0b H =>
  newK H [(Value.int .i64 x0a), x0b] 26 (fun b1 H2 => B4 P b1 H2)
theorem q5 P : Q o5 (E k0 (B4 P)) k3 (B5 P) := fun _ _ _ _ => by kernel_rfl
def code : Code := (.seq (R 0 o5) (.seq (.seq (R 1 o4) (.seq (R 2 o3) (.cond (.tmp 8) (.seq (R 3 o2) .ret) .skip))) (.seq (R 4 o1) .ret)))
theorem body : Tryz.f62.body = some code := by kernel_rfl
theorem main (P : PT) : ∀ env H, (En 12 k3 (B5 P)) env H → AW Tryz.prog T0 code env H (M (ret P)) :=
  (r_seq (b (q5 P)) (r_seq (r_seq (b (q4 P)) (r_seq (b (q3 P)) (r_cond rfl (r_seq (b (q2 P)) r_ret) r_skip))) (r_seq (b (q1 P)) r_ret)))
theorem ac (P : PT) (x0a : Int) (x0b : Value) (H : AHeap) (h : B5 P x0a x0b H) : AC Tryz.prog T0 62 [(Value.agg ⟨[(Value.int .i64 x0a), x0b]⟩)] H P :=
  r_fn T0_ok (c := code) (n := 12) Tryz.func62 body (by kernel_rfl) (main P) (En_mk (x0a, x0b, ()) (by kernel_rfl) ⟨by kernel_rfl, trivial⟩ h)

end F62
namespace F63
abbrev E := En 15
abbrev Q := QB Tryz.prog T0 15
def O (k : Nat) := ob Tryz.f63 (pth k)
def ret (P : PT) : EP := retE T0 15 Tryz.f63 P
abbrev k0 : Sk := [(1,.v),(2,.x)]
def o1 := O 14
def B1 (P : PT) : Y k0 := fun x1 x2 H =>
  ldI .i64 H x2 0 (fun v1 => ld1 H x2 1 (fun v2 => AC Tryz.prog T0 133 [(Value.agg ⟨[(Value.int .i64 v1), v2]⟩), x1] H (fun v3 H4 => asB v3 (fun v5 => P (Value.tuple ⟨[(Value.bool v5), (Value.int .i64 0)]⟩) H4))))
theorem q1 P : Q o1 (ret P) k0 (B1 P) := fun _ _ _ _ => by kernel_rfl
abbrev k1 : Sk := [(6,J)]
def o2 := O 108
def B2 (P : PT) : Y k1 := fun x6 H =>
  P (Value.tuple ⟨[(Value.bool false), (Value.int .i64 x6)]⟩) H
theorem q2 P : Q o2 (ret P) k1 (B2 P) := fun _ _ _ => by kernel_rfl
abbrev k2 : Sk := [(1,.v),(2,.x),(6,J)]
def o3 := O 26
def B3 (P : PT) : Y k2 := fun x1 x2 x6 H =>
  pif ((x6 : Int) != 0) (B2 P x6 H) (B1 P x1 x2 H)
theorem q3 P : Q o3 (cnd 10 (E k1 (B2 P)) (E k0 (B1 P))) k2 (B3 P) := fun _ _ _ _ _ => by kernel_rfl
def o4 := O 12
def B4 (P : PT) : Y k0 := fun x1 x2 H =>
  ldI .i64 H x2 0 (fun v1 => ld1 H x2 1 (fun v2 => AC Tryz.prog T0 72 [(Value.agg ⟨[(Value.int .i64 v1), v2]⟩), (Value.bool true)] H (fun v3 H4 => asI .i64 v3 (fun v5 => B3 P x1 x2 v5 H4))))
theorem q4 P : Q o4 (E k2 (B3 P)) k0 (B4 P) := fun _ _ _ _ => by kernel_rfl
abbrev k3 : Sk := [(0,.g [.i,.v]),(1,.v)]
def o5 := O 2
def B5 (P : PT) : Y k3 := fun x0a x0b x1 H =>
  newK H [(Value.int .i64 x0a), x0b] 26 (fun b1 H2 => B4 P x1 b1 H2)
theorem q5 P : Q o5 (E k0 (B4 P)) k3 (B5 P) := fun _ _ _ _ _ => by kernel_rfl
def code : Code := (.seq (R 0 o5) (.seq (.seq (R 1 o4) (.seq (R 2 o3) (.cond (.tmp 10) (.seq (R 3 o2) .ret) .skip))) (.seq (R 4 o1) .ret)))
theorem body : Tryz.f63.body = some code := by kernel_rfl
theorem main (P : PT) : ∀ env H, (En 15 k3 (B5 P)) env H → AW Tryz.prog T0 code env H (M (ret P)) :=
  (r_seq (b (q5 P)) (r_seq (r_seq (b (q4 P)) (r_seq (b (q3 P)) (r_cond rfl (r_seq (b (q2 P)) r_ret) r_skip))) (r_seq (b (q1 P)) r_ret)))
theorem ac (P : PT) (x0a : Int) (x0b x1 : Value) (H : AHeap) (h : B5 P x0a x0b x1 H) : AC Tryz.prog T0 63 [(Value.agg ⟨[(Value.int .i64 x0a), x0b]⟩), x1] H P :=
  r_fn T0_ok (c := code) (n := 15) Tryz.func63 body (by kernel_rfl) (main P) (En_mk (x0a, x0b, x1, ()) (by kernel_rfl) ⟨by kernel_rfl, by kernel_rfl, trivial⟩ h)

end F63
namespace F64
abbrev E := En 18
abbrev Q := QB Tryz.prog T0 18
def O (k : Nat) := ob Tryz.f64 (pth k)
def ret (P : PT) : EP := retE T0 18 Tryz.f64 P
abbrev k0 : Sk := []
def o1 := O 14
def B1 (P : PT) : Y k0 := fun H =>
  P (Value.bool false) H
theorem q1 P : Q o1 (ret P) k0 (B1 P) := fun _ _ => by kernel_rfl
abbrev k1 : Sk := [(0,.v),(1,J),(5,J)]
def o3 := O 211
def B3 (P : PT) (N2 : Y k1) : Y k1 := fun x0 x1 x5 H =>
  N2 x0 x1 (IntKind.i64.wrap (x5 + 1)) H
theorem q3 P N2 : Q o3 (E k1 N2) k1 (B3 P N2) := fun _ _ _ _ _ => by kernel_rfl
def o4 := O 3364
def B4 (P : PT) (N2 : Y k1) : Y k0 := fun H =>
  P (Value.bool true) H
theorem q4 P N2 : Q o4 (ret P) k0 (B4 P N2) := fun _ _ => by kernel_rfl
def o5 := O 840
def B5 (P : PT) (N2 : Y k1) : Y k1 := fun x0 x1 x5 H =>
  idxK x0 x5 1 (fun b1 o2 => ldI .i64 H b1 o2 (fun v3 => pif ((v3 : Int) == x1) (B4 P N2 H) (B3 P N2 x0 x1 x5 H)))
theorem q5 P N2 : Q o5 (cnd 17 (E k0 (B4 P N2)) (E k1 (B3 P N2))) k1 (B5 P N2) := fun _ _ _ _ _ => by kernel_rfl
def o6 := O 208
def B6 (P : PT) (N2 : Y k1) : Y k1 := fun x0 x1 x5 H =>
  lenK x0 (fun n1 => pif (decide ((x5 : Int) < (n1 : Int))) (B5 P N2 x0 x1 x5 H) (B1 P H))
theorem q6 P N2 : Q o6 (cnd 9 (E k1 (B5 P N2)) (E k0 (B1 P))) k1 (B6 P N2) := fun _ _ _ _ _ => by kernel_rfl
def L2 (P : PT) : Y k1 := fun x0 x1 x5 H =>
  ∃ (I : Y k1) (μ : NTy k1 (AHeap → Nat)), I x0 x1 x5 H ∧ ∀ y0 y1 y5 G, I y0 y1 y5 G → B6 P (fun z0 z1 z5 G' => I z0 z1 z5 G' ∧ μ z0 z1 z5 G' < μ y0 y1 y5 G) y0 y1 y5 G
theorem l2 P : LQ k1 (L2 P) (B6 P) := fun ⟨_,_,_,_⟩ _ ⟨I, μ, h0, hI⟩ => ⟨apT _ I, apT _ μ, h0, fun ⟨_,_,_,_⟩ _ h => hI _ _ _ _  h⟩
abbrev k2 : Sk := [(0,.v),(1,J)]
def o7 := O 12
def B7 (P : PT) : Y k2 := fun x0 x1 H =>
  L2 P x0 x1 0 H
theorem q7 P : Q o7 (E k1 (L2 P)) k2 (B7 P) := fun _ _ _ _ => by kernel_rfl
def o8 := O 2
def B8 (P : PT) : Y k2 := fun x0 x1 H =>
  B7 P x0 x1 H
theorem q8 P : Q o8 (E k2 (B7 P)) k2 (B8 P) := fun _ _ _ _ => by kernel_rfl
def code : Code := (.seq (R 0 o8) (.seq (.seq (R 1 o7) (.block 0 (.loop (.seq (.seq (R 2 o6) (.cond (.tmp 9) .skip (.exit 0))) (.seq (.block 1 (.seq (R 4 o5) (.cond (.tmp 17) (.seq (R 5 o4) .ret) .skip))) (R 3 o3)))))) (.seq (R 6 o1) .ret)))
theorem body : Tryz.f64.body = some code := by kernel_rfl
theorem main (P : PT) : ∀ env H, (En 18 k2 (B8 P)) env H → AW Tryz.prog T0 code env H (M (ret P)) :=
  (r_seq (b (q8 P)) (r_seq (r_seq (b (q7 P)) (r_block (rL (l2 P) (fun N2 => (r_seq (r_seq (b (q6 P N2)) (r_cond rfl r_skip (r_exit (fun _ _ h => h)))) (r_seq (r_block (r_seq (b (q5 P N2)) (r_cond rfl (r_seq (b (q4 P N2)) r_ret) r_skip))) (b (q3 P N2)))))))) (r_seq (b (q1 P)) r_ret)))
theorem ac (P : PT) (x0 : Value) (x1 : Int) (H : AHeap) (h : B8 P x0 x1 H) : AC Tryz.prog T0 64 [x0, (Value.int .i64 x1)] H P :=
  r_fn T0_ok (c := code) (n := 18) Tryz.func64 body (by kernel_rfl) (main P) (En_mk (x0, x1, ()) (by kernel_rfl) ⟨by kernel_rfl, by kernel_rfl, trivial⟩ h)

end F64
namespace F65
abbrev E := En 38
abbrev Q := QB Tryz.prog T0 38
def O (k : Nat) := ob Tryz.f65 (pth k)
def ret (P : PT) : EP := retE T0 38 Tryz.f65 P
abbrev k0 : Sk := [(3,.v)]
def o1 := O 30
def B1 (P : PT) : Y k0 := fun x3 H =>
  P x3 H
theorem q1 P : Q o1 (ret P) k0 (B1 P) := fun _ _ _ => by kernel_rfl
abbrev k1 : Sk := [(0,.v),(3,.v),(4,J)]
def o3 := O 467
def B3 (P : PT) (N2 : Y k1) : Y k1 := fun x0 x3 x4 H =>
  N2 x0 x3 (IntKind.i64.wrap (x4 + 1)) H
theorem q3 P N2 : Q o3 (E k1 N2) k1 (B3 P N2) := fun _ _ _ _ _ => by kernel_rfl
def o4 := O 932
def B4 (P : PT) (N2 : Y k1) : Y k1 := fun x0 x3 x4 H =>
  nilK x3 (fun v1 => asP v1 (fun b2 o3 => ldI .u64 H b2 (o3 + 2) (fun v4 => idxK x0 x4 1 (fun b5 o6 => ldI .u8 H b5 o6 (fun v7 => nilK x3 (fun v8 => asP v8 (fun b9 o10 => stK H b9 (o10 + 2) [(Value.int .u64 (IntKind.u64.wrap ((IntKind.u64.wrap ((IntKind.u64.wrap (v4 * 1099511628211)) + (IntKind.u64.wrap v7))) + 151)))] (fun H11 => B3 P N2 x0 x3 x4 H11))))))))
theorem q4 (P : PT) (N2 : Y k1) : QD Tryz.prog T0 38 o4 [(0, false), (1, false), (2, false), (3, false), (4, false), (5, false), (6, false), (7, false), (8, false), (9, false), (10, false), (11, false), (12, false), (13, false), (14, false), (15, false)] (En 38 k1 (B3 P N2)) k1 (B4 P N2) := fun _ _ _ _ _  => by kernel_rfl
def o5 := O 464
def B5 (P : PT) (N2 : Y k1) : Y k1 := fun x0 x3 x4 H =>
  lenK x0 (fun n1 => pif (decide ((x4 : Int) < (n1 : Int))) (pif (decide ((x4 : Int) < 4096)) (B4 P N2 x0 x3 x4 H) (B1 P x3 H)) (B1 P x3 H))
theorem q5 P N2 : Q o5 (cnd 19 (E k1 (B4 P N2)) (E k0 (B1 P))) k1 (B5 P N2) := fun _ _ _ _ _ => by kernel_rfl
def L2 (P : PT) : Y k1 := fun x0 x3 x4 H =>
  ∃ (I : Y k1) (μ : NTy k1 (AHeap → Nat)), I x0 x3 x4 H ∧ ∀ y0 y3 y4 G, I y0 y3 y4 G → B5 P (fun z0 z3 z4 G' => I z0 z3 z4 G' ∧ μ z0 z3 z4 G' < μ y0 y3 y4 G) y0 y3 y4 G
theorem l2 P : LQ k1 (L2 P) (B5 P) := fun ⟨_,_,_,_⟩ _ ⟨I, μ, h0, hI⟩ => ⟨apT _ I, apT _ μ, h0, fun ⟨_,_,_,_⟩ _ h => hI _ _ _ _  h⟩
abbrev k2 : Sk := [(0,.v),(3,.v)]
def o6 := O 28
def B6 (P : PT) : Y k2 := fun x0 x3 H =>
  L2 P x0 x3 0 H
theorem q6 P : Q o6 (E k1 (L2 P)) k2 (B6 P) := fun _ _ _ _ => by kernel_rfl
abbrev k3 : Sk := [(0,.v)]
def o7 := O 6
def B7 (P : PT) : Y k3 := fun x0 H =>
  lenK x0 (fun n1 => pif (Value.oneCell' x0) (newK H [x0, (Value.int .i64 0), (Value.int .u64 (IntKind.u64.wrap (13291 + (IntKind.u64.wrap (n1 : Int)))))] 131 (fun b2 H3 => B6 P x0 (Value.pointer (some ⟨b2, 0, none⟩)) H3)) False)
theorem q7 P : Q o7 (E k2 (B6 P)) k3 (B7 P) := fun _ _ _ => by kernel_rfl
def o8 := O 2
def B8 (P : PT) : Y k3 := fun x0 H =>
  B7 P x0 H
theorem q8 P : Q o8 (E k3 (B7 P)) k3 (B8 P) := fun _ _ _ => by kernel_rfl
def code : Code := (.seq (R 0 o8) (.seq (R 1 o7) (.seq (.seq (R 2 o6) (.block 0 (.loop (.seq (.seq (R 3 o5) (.cond (.tmp 19) .skip (.exit 0))) (.seq (.block 1 (.region 5 ⟨o4⟩ true)) (R 4 o3)))))) (.seq (R 6 o1) .ret))))
theorem body : Tryz.f65.body = some code := by kernel_rfl
theorem main (P : PT) : ∀ env H, (En 38 k3 (B8 P)) env H → AW Tryz.prog T0 code env H (M (ret P)) :=
  (r_seq (b (q8 P)) (r_seq (b (q7 P)) (r_seq (r_seq (b (q6 P)) (r_block (rL (l2 P) (fun N2 => (r_seq (r_seq (b (q5 P N2)) (r_cond rfl r_skip (r_exit (fun _ _ h => h)))) (r_seq (r_block (rD T0_ok mixed [(0, false), (1, false), (2, false), (3, false), (4, false), (5, false), (6, false), (7, false), (8, false), (9, false), (10, false), (11, false), (12, false), (13, false), (14, false), (15, false)] (by kernel_rfl) (q4 P N2))) (b (q3 P N2)))))))) (r_seq (b (q1 P)) r_ret))))
theorem ac (P : PT) (x0 : Value) (H : AHeap) (h : B8 P x0 H) : AC Tryz.prog T0 65 [x0] H P :=
  r_fn T0_ok (c := code) (n := 38) Tryz.func65 body (by kernel_rfl) (main P) (En_mk (x0, ()) (by kernel_rfl) ⟨by kernel_rfl, trivial⟩ h)

end F65
namespace F66
abbrev E := En 58
abbrev Q := QB Tryz.prog T0 58
def O (k : Nat) := ob Tryz.f66 (pth k)
def ret (P : PT) : EP := retE T0 58 Tryz.f66 P
abbrev k0 : Sk := [(1,J),(5,J)]
def o1 := O 126
def B1 (P : PT) : Y k0 := fun x1 x5 H =>
  nzK x1 (P (Value.int .i64 (Int.tmod x5 x1)) H)
theorem q1 P : Q o1 (ret P) k0 (B1 P) := fun _ _ _ _ => by kernel_rfl
abbrev k1 : Sk := [(0,.v),(1,J),(5,J)]
def o2 := O 501
def B2 (P : PT) : Y k1 := fun x0 x1 x5 H =>
  nilK x0 (fun v1 => asP v1 (fun b2 o3 => ldI .i64 H b2 (o3 + 1) (fun v4 => nilK x0 (fun v5 => asP v5 (fun b6 o7 => stK H b6 (o7 + 1) [(Value.int .i64 (IntKind.i64.wrap (v4 + 1)))] (fun H8 => B1 P x1 x5 H8))))))
theorem q2 P : Q o2 (E k0 (B1 P)) k1 (B2 P) := fun _ _ _ _ _ => by kernel_rfl
def o3 := O 500
def B3 (P : PT) : Y k1 := fun x0 x1 x5 H =>
  nilK x0 (fun v1 => asP v1 (fun b2 o3 => ld1 H b2 o3 (fun v4 => nilK x0 (fun v5 => asP v5 (fun b6 o7 => ldI .i64 H b6 (o7 + 1) (fun v8 => idxK v4 v8 1 (fun b9 o10 => ldI .u8 H b9 o10 (fun v11 => B2 P x0 x1 (IntKind.i64.wrap (x5 + (IntKind.i64.wrap v11))) H))))))))
theorem q3 (P : PT) : QD Tryz.prog T0 58 o3 [(0, false), (1, false), (2, false), (3, false), (4, false), (5, false), (6, false), (7, false), (8, false), (9, false), (10, false), (11, false), (12, false), (13, false)] (En 58 k1 (B2 P)) k1 (B3 P) := fun _ _ _ _ _  => by kernel_rfl
def o4 := O 124
def B4 (P : PT) : Y k1 := fun x0 x1 x5 H =>
  nilK x0 (fun v1 => asP v1 (fun b2 o3 => ldI .i64 H b2 (o3 + 1) (fun v4 => nilK x0 (fun v5 => asP v5 (fun b6 o7 => ld1 H b6 o7 (fun v8 => lenK v8 (fun n9 => pif (decide ((v4 : Int) < (n9 : Int))) (B3 P x0 x1 x5 H) (B1 P x1 x5 H))))))))
theorem q4 (P : PT) : QD Tryz.prog T0 58 o4 [(0, false), (1, false), (2, false), (3, false), (4, false), (5, false), (6, false), (7, false), (8, false), (9, false)] (cnd 33 (En 58 k1 (B3 P)) (En 58 k0 (B1 P))) k1 (B4 P) := fun _ _ _ _ _  => by kernel_rfl
abbrev k2 : Sk := [(0,.v),(1,J)]
def o5 := O 30
def B5 (P : PT) : Y k2 := fun x0 x1 H =>
  nilK x0 (fun v1 => asP v1 (fun b2 o3 => ldI .u64 H b2 (o3 + 2) (fun v4 => ((0 : Int) ≤ 33) ∧ (B4 P x0 x1 (IntKind.i64.wrap (IntKind.u64.wrap (BitVec.ofInt 64 (Int.fdiv v4 (2 ^ (min (Int.toNat 33) 64))) &&& BitVec.ofInt 64 16777215).toNat)) H))))
theorem q5 P : Q o5 (E k1 (B4 P)) k2 (B5 P) := fun _ _ _ _ => by kernel_rfl
def o6 := O 14
def B6 (P : PT) : Y k2 := fun x0 x1 H =>
  nilK x0 (fun v1 => asP v1 (fun b2 o3 => ldI .u64 H b2 (o3 + 2) (fun v4 => nilK x0 (fun v5 => asP v5 (fun b6 o7 => stK H b6 (o7 + 2) [(Value.int .u64 (IntKind.u64.wrap ((IntKind.u64.wrap (v4 * 6364136223846793005)) + 1442695040888963407)))] (fun H8 => B5 P x0 x1 H8))))))
theorem q6 P : Q o6 (E k2 (B5 P)) k2 (B6 P) := fun _ _ _ _ => by kernel_rfl
abbrev k3 : Sk := []
def o7 := O 52
def B7 (P : PT) : Y k3 := fun H =>
  P (Value.int .i64 0) H
theorem q7 P : Q o7 (ret P) k3 (B7 P) := fun _ _ => by kernel_rfl
def o8 := O 12
def B8 (P : PT) : Y k2 := fun x0 x1 H =>
  pif (decide ((x1 : Int) < 1)) (B7 P H) (B6 P x0 x1 H)
theorem q8 P : Q o8 (cnd 7 (E k3 (B7 P)) (E k2 (B6 P))) k2 (B8 P) := fun _ _ _ _ => by kernel_rfl
def o9 := O 2
def B9 (P : PT) : Y k2 := fun x0 x1 H =>
  B8 P x0 x1 H
theorem q9 P : Q o9 (E k2 (B8 P)) k2 (B9 P) := fun _ _ _ _ => by kernel_rfl
def code : Code := (.seq (R 0 o9) (.seq (.seq (R 1 o8) (.cond (.tmp 7) (.seq (R 2 o7) .ret) .skip)) (.seq (R 3 o6) (.seq (R 4 o5) (.seq (.seq (.region 5 ⟨o4⟩ true) (.cond (.tmp 33) (.seq (.region 6 ⟨o3⟩ true) (R 7 o2)) .skip)) (.seq (R 8 o1) .ret))))))
theorem body : Tryz.f66.body = some code := by kernel_rfl
theorem main (P : PT) : ∀ env H, (En 58 k2 (B9 P)) env H → AW Tryz.prog T0 code env H (M (ret P)) :=
  (r_seq (b (q9 P)) (r_seq (r_seq (b (q8 P)) (r_cond rfl (r_seq (b (q7 P)) r_ret) r_skip)) (r_seq (b (q6 P)) (r_seq (b (q5 P)) (r_seq (r_seq (rD T0_ok mixed [(0, false), (1, false), (2, false), (3, false), (4, false), (5, false), (6, false), (7, false), (8, false), (9, false)] (by kernel_rfl) (q4 P)) (r_cond rfl (r_seq (rD T0_ok mixed [(0, false), (1, false), (2, false), (3, false), (4, false), (5, false), (6, false), (7, false), (8, false), (9, false), (10, false), (11, false), (12, false), (13, false)] (by kernel_rfl) (q3 P)) (b (q2 P))) r_skip)) (r_seq (b (q1 P)) r_ret))))))
theorem ac (P : PT) (x0 : Value) (x1 : Int) (H : AHeap) (h : B9 P x0 x1 H) : AC Tryz.prog T0 66 [x0, (Value.int .i64 x1)] H P :=
  r_fn T0_ok (c := code) (n := 58) Tryz.func66 body (by kernel_rfl) (main P) (En_mk (x0, x1, ()) (by kernel_rfl) ⟨by kernel_rfl, by kernel_rfl, trivial⟩ h)

end F66
namespace F67
abbrev E := En 228
abbrev Q := QB Tryz.prog T0 228
def O (k : Nat) := ob Tryz.f67 (pth k)
def ret (P : PT) : EP := retE T0 228 Tryz.f67 P
abbrev k0 : Sk := [(2,.x)]
def o1 := O 30
def B1 (P : PT) : Y k0 := fun x2 H =>
  stK H x2 0 [(Value.int .i64 0), (Value.slice none 0 0)] (fun H1 => ldI .i64 H1 x2 0 (fun v2 => ld1 H1 x2 1 (fun v3 => P (Value.tuple ⟨[(Value.agg ⟨[(Value.int .i64 v2), v3]⟩), (Value.bool false)]⟩) H1)))
theorem q1 P : Q o1 (ret P) k0 (B1 P) := fun _ _ _ => by kernel_rfl
def o2 := O 468
def B2 (P : PT) : Y k0 := fun x2 H =>
  newK H [(Value.int .i64 0), (Value.int .i64 1), (Value.int .i64 0), (Value.int .i64 1), (Value.int .i64 0), (Value.int .i64 1)] 78 (fun b1 H2 => AC Tryz.prog T0 141 [(Value.int .i64 2), (Value.slice (some ⟨b1, 0, none⟩) 3 (3 + 1))] H2 (fun v3 H4 => agg2 v3 (fun v5 v6 => asI .i64 v5 (fun v7 => stK H4 x2 0 [(Value.int .i64 v7), v6] (fun H9 => ldI .i64 H9 x2 0 (fun v10 => ld1 H9 x2 1 (fun v11 => P (Value.tuple ⟨[(Value.agg ⟨[(Value.int .i64 v10), v11]⟩), (Value.bool true)]⟩) H9)))))))
theorem q2 P : Q o2 (ret P) k0 (B2 P) := fun _ _ _ => by kernel_rfl
def o3 := O 1884
def B3 (P : PT) : Y k0 := fun x2 H =>
  newK H [(Value.int .i64 0), (Value.int .i64 1), (Value.int .i64 0), (Value.int .i64 2), (Value.int .i64 0), (Value.int .i64 3), (Value.int .i64 1), (Value.int .i64 2), (Value.int .i64 1), (Value.int .i64 3), (Value.int .i64 2), (Value.int .i64 3)] 78 (fun b1 H2 => AC Tryz.prog T0 141 [(Value.int .i64 4), (Value.slice (some ⟨b1, 0, none⟩) 6 (6 + 1))] H2 (fun v3 H4 => agg2 v3 (fun v5 v6 => asI .i64 v5 (fun v7 => stK H4 x2 0 [(Value.int .i64 v7), v6] (fun H9 => ldI .i64 H9 x2 0 (fun v10 => ld1 H9 x2 1 (fun v11 => P (Value.tuple ⟨[(Value.agg ⟨[(Value.int .i64 v10), v11]⟩), (Value.bool true)]⟩) H9)))))))
theorem q3 P : Q o3 (ret P) k0 (B3 P) := fun _ _ _ => by kernel_rfl
abbrev k1 : Sk := [(2,.x),(4,.v)]
def o4 := O 15098
def B4 (P : PT) : Y k1 := fun x2 x4 H =>
  AC Tryz.prog T0 141 [(Value.int .i64 6), x4] H (fun v1 H2 => agg2 v1 (fun v3 v4 => asI .i64 v3 (fun v5 => stK H2 x2 0 [(Value.int .i64 v5), v4] (fun H7 => ldI .i64 H7 x2 0 (fun v8 => ld1 H7 x2 1 (fun v9 => P (Value.tuple ⟨[(Value.agg ⟨[(Value.int .i64 v8), v9]⟩), (Value.bool true)]⟩) H7))))))
theorem q4 P : Q o4 (ret P) k1 (B4 P) := fun _ _ _ _ => by kernel_rfl
abbrev k2 : Sk := [(2,.x),(4,.v),(5,J)]
def o6 := O 241555
def B6 (P : PT) (N5 : Y k2) : Y k2 := fun x2 x4 x5 H =>
  N5 x2 x4 (IntKind.i64.wrap (x5 + 1)) H
theorem q6 P N5 : Q o6 (E k2 N5) k2 (B6 P N5) := fun _ _ _ _ _ => by kernel_rfl
def o7 := O 483108
def B7 (P : PT) (N5 : Y k2) : Y k2 := fun x2 x4 x5 H =>
  newK H [(Value.int .i64 x5), (Value.int .i64 3), (Value.int .i64 x5), (Value.int .i64 4), (Value.int .i64 x5), (Value.int .i64 5)] 78 (fun b1 H2 => apK T0 78 H2 x4 (Value.slice (some ⟨b1, 0, none⟩) 3 (3 + 1)) (fun v3 H4 => B6 P N5 x2 v3 x5 H4))
theorem q7 P N5 : Q o7 (E k2 (B6 P N5)) k2 (B7 P N5) := fun _ _ _ _ _ => by kernel_rfl
def o8 := O 241552
def B8 (P : PT) (N5 : Y k2) : Y k2 := fun x2 x4 x5 H =>
  pif (decide ((x5 : Int) < 3)) (B7 P N5 x2 x4 x5 H) (B4 P x2 x4 H)
theorem q8 P N5 : Q o8 (cnd 36 (E k2 (B7 P N5)) (E k1 (B4 P))) k2 (B8 P N5) := fun _ _ _ _ _ => by kernel_rfl
def L5 (P : PT) : Y k2 := fun x2 x4 x5 H =>
  ∃ (I : Y k2) (μ : NTy k2 (AHeap → Nat)), I x2 x4 x5 H ∧ ∀ y2 y4 y5 G, I y2 y4 y5 G → B8 P (fun z2 z4 z5 G' => I z2 z4 z5 G' ∧ μ z2 z4 z5 G' < μ y2 y4 y5 G) y2 y4 y5 G
theorem l5 P : LQ k2 (L5 P) (B8 P) := fun ⟨_,_,_,_⟩ _ ⟨I, μ, h0, hI⟩ => ⟨apT _ I, apT _ μ, h0, fun ⟨_,_,_,_⟩ _ h => hI _ _ _ _  h⟩
def o9 := O 15096
def B9 (P : PT) : Y k1 := fun x2 x4 H =>
  L5 P x2 x4 0 H
theorem q9 P : Q o9 (E k2 (L5 P)) k1 (B9 P) := fun _ _ _ _ => by kernel_rfl
def o10 := O 60410
def B10 (P : PT) : Y k1 := fun x2 x4 H =>
  newK H [(Value.int .i64 0), (Value.int .i64 3), (Value.int .i64 1), (Value.int .i64 4), (Value.int .i64 2), (Value.int .i64 5)] 78 (fun b1 H2 => apK T0 78 H2 x4 (Value.slice (some ⟨b1, 0, none⟩) 3 (3 + 1)) (fun v3 H4 => AC Tryz.prog T0 141 [(Value.int .i64 6), v3] H4 (fun v5 H6 => agg2 v5 (fun v7 v8 => asI .i64 v7 (fun v9 => stK H6 x2 0 [(Value.int .i64 v9), v8] (fun H11 => ldI .i64 H11 x2 0 (fun v12 => ld1 H11 x2 1 (fun v13 => P (Value.tuple ⟨[(Value.agg ⟨[(Value.int .i64 v12), v13]⟩), (Value.bool true)]⟩) H11))))))))
theorem q10 P : Q o10 (ret P) k1 (B10 P) := fun _ _ _ _ => by kernel_rfl
def o11 := O 30204
def B11 (P : PT) : Y k1 := fun x2 x4 H =>
  newK H [(Value.int .i64 0), (Value.int .i64 1), (Value.int .i64 2)] 2 (fun b1 H2 => AC Tryz.prog T0 142 [x4, (Value.slice (some ⟨b1, 0, none⟩) 3 (3 + 1))] H2 (fun v3 H4 => newK H4 [(Value.int .i64 3), (Value.int .i64 4), (Value.int .i64 5)] 2 (fun b6 H7 => AC Tryz.prog T0 142 [v3, (Value.slice (some ⟨b6, 0, none⟩) 3 (3 + 1))] H7 (fun v8 H9 => B10 P x2 v8 H9))))
theorem q11 P : Q o11 (E k1 (B10 P)) k1 (B11 P) := fun _ _ _ _ => by kernel_rfl
def o12 := O 241658
def B12 (P : PT) : Y k1 := fun x2 x4 H =>
  AC Tryz.prog T0 141 [(Value.int .i64 8), x4] H (fun v1 H2 => agg2 v1 (fun v3 v4 => asI .i64 v3 (fun v5 => stK H2 x2 0 [(Value.int .i64 v5), v4] (fun H7 => ldI .i64 H7 x2 0 (fun v8 => ld1 H7 x2 1 (fun v9 => P (Value.tuple ⟨[(Value.agg ⟨[(Value.int .i64 v8), v9]⟩), (Value.bool true)]⟩) H7))))))
theorem q12 P : Q o12 (ret P) k1 (B12 P) := fun _ _ _ _ => by kernel_rfl
abbrev k3 : Sk := [(2,.x),(4,.v),(6,J)]
def o14 := O 3866515
def B14 (P : PT) (N13 : Y k3) : Y k3 := fun x2 x4 x6 H =>
  N13 x2 x4 (IntKind.i64.wrap (x6 + 1)) H
theorem q14 P N13 : Q o14 (E k3 N13) k3 (B14 P N13) := fun _ _ _ _ _ => by kernel_rfl
abbrev k4 : Sk := [(2,.x),(4,.v),(6,J),(7,J)]
def o16 := O 247456915
def B16 (P : PT) (N13 : Y k3) (N15 : Y k4) : Y k4 := fun x2 x4 x6 x7 H =>
  N15 x2 x4 x6 (IntKind.i64.wrap (2 * x7)) H
theorem q16 P N13 N15 : Q o16 (E k4 N15) k4 (B16 P N13 N15) := fun _ _ _ _ _ _ => by kernel_rfl
def o17 := O 1979655314
def B17 (P : PT) (N13 : Y k3) (N15 : Y k4) : Y k4 := fun x2 x4 x6 x7 H =>
  newK H [(Value.int .i64 x6), (Value.int .i64 (IntKind.i64.wrap (x6 + x7)))] 78 (fun b1 H2 => apK T0 78 H2 x4 (Value.slice (some ⟨b1, 0, none⟩) 1 (1 + 1)) (fun v3 H4 => B16 P N13 N15 x2 v3 x6 x7 H4))
theorem q17 P N13 N15 : Q o17 (E k4 (B16 P N13 N15)) k4 (B17 P N13 N15) := fun _ _ _ _ _ _ => by kernel_rfl
def o18 := O 989827656
def B18 (P : PT) (N13 : Y k3) (N15 : Y k4) : Y k4 := fun x2 x4 x6 x7 H =>
  pif ((IntKind.i64.wrap (BitVec.ofInt 64 x6 &&& BitVec.ofInt 64 x7).toNat : Int) == 0) (B17 P N13 N15 x2 x4 x6 x7 H) (B16 P N13 N15 x2 x4 x6 x7 H)
theorem q18 P N13 N15 : Q o18 (cnd 77 (E k4 (B17 P N13 N15)) (E k4 (B16 P N13 N15))) k4 (B18 P N13 N15) := fun _ _ _ _ _ _ => by kernel_rfl
def o19 := O 247456912
def B19 (P : PT) (N13 : Y k3) (N15 : Y k4) : Y k4 := fun x2 x4 x6 x7 H =>
  pif (decide ((x7 : Int) < 8)) (B18 P N13 N15 x2 x4 x6 x7 H) (B14 P N13 x2 x4 x6 H)
theorem q19 P N13 N15 : Q o19 (cnd 71 (E k4 (B18 P N13 N15)) (E k3 (B14 P N13))) k4 (B19 P N13 N15) := fun _ _ _ _ _ _ => by kernel_rfl
def L15 (P : PT) (N13 : Y k3) : Y k4 := fun x2 x4 x6 x7 H =>
  ∃ (I : Y k4) (μ : NTy k4 (AHeap → Nat)), I x2 x4 x6 x7 H ∧ ∀ y2 y4 y6 y7 G, I y2 y4 y6 y7 G → B19 P N13 (fun z2 z4 z6 z7 G' => I z2 z4 z6 z7 G' ∧ μ z2 z4 z6 z7 G' < μ y2 y4 y6 y7 G) y2 y4 y6 y7 G
theorem l15 P N13 : LQ k4 (L15 P N13) (B19 P N13) := fun ⟨_,_,_,_,_⟩ _ ⟨I, μ, h0, hI⟩ => ⟨apT _ I, apT _ μ, h0, fun ⟨_,_,_,_,_⟩ _ h => hI _ _ _ _ _  h⟩
def o20 := O 15466056
def B20 (P : PT) (N13 : Y k3) : Y k3 := fun x2 x4 x6 H =>
  L15 P N13 x2 x4 x6 1 H
theorem q20 P N13 : Q o20 (E k4 (L15 P N13)) k3 (B20 P N13) := fun _ _ _ _ _ => by kernel_rfl
def o21 := O 3866512
def B21 (P : PT) (N13 : Y k3) : Y k3 := fun x2 x4 x6 H =>
  pif (decide ((x6 : Int) < 8)) (B20 P N13 x2 x4 x6 H) (B12 P x2 x4 H)
theorem q21 P N13 : Q o21 (cnd 67 (E k3 (B20 P N13)) (E k1 (B12 P))) k3 (B21 P N13) := fun _ _ _ _ _ => by kernel_rfl
def L13 (P : PT) : Y k3 := fun x2 x4 x6 H =>
  ∃ (I : Y k3) (μ : NTy k3 (AHeap → Nat)), I x2 x4 x6 H ∧ ∀ y2 y4 y6 G, I y2 y4 y6 G → B21 P (fun z2 z4 z6 G' => I z2 z4 z6 G' ∧ μ z2 z4 z6 G' < μ y2 y4 y6 G) y2 y4 y6 G
theorem l13 P : LQ k3 (L13 P) (B21 P) := fun ⟨_,_,_,_⟩ _ ⟨I, μ, h0, hI⟩ => ⟨apT _ I, apT _ μ, h0, fun ⟨_,_,_,_⟩ _ h => hI _ _ _ _  h⟩
def o22 := O 241656
def B22 (P : PT) : Y k1 := fun x2 x4 H =>
  L13 P x2 x4 0 H
theorem q22 P : Q o22 (E k3 (L13 P)) k1 (B22 P) := fun _ _ _ _ => by kernel_rfl
def o23 := O 966650
def B23 (P : PT) : Y k1 := fun x2 x4 H =>
  AC Tryz.prog T0 141 [(Value.int .i64 10), x4] H (fun v1 H2 => agg2 v1 (fun v3 v4 => asI .i64 v3 (fun v5 => stK H2 x2 0 [(Value.int .i64 v5), v4] (fun H7 => ldI .i64 H7 x2 0 (fun v8 => ld1 H7 x2 1 (fun v9 => P (Value.tuple ⟨[(Value.agg ⟨[(Value.int .i64 v8), v9]⟩), (Value.bool true)]⟩) H7))))))
theorem q23 P : Q o23 (ret P) k1 (B23 P) := fun _ _ _ _ => by kernel_rfl
abbrev k5 : Sk := [(2,.x),(4,.v),(8,J)]
def o25 := O 15466387
def B25 (P : PT) (N24 : Y k5) : Y k5 := fun x2 x4 x8 H =>
  N24 x2 x4 (IntKind.i64.wrap (x8 + 1)) H
theorem q25 P N24 : Q o25 (E k5 N24) k5 (B25 P N24) := fun _ _ _ _ _ => by kernel_rfl
def o26 := O 30932772
def B26 (P : PT) (N24 : Y k5) : Y k5 := fun x2 x4 x8 H =>
  newK H [(Value.int .i64 x8), (Value.int .i64 (Int.tmod (IntKind.i64.wrap (x8 + 1)) 5)), (Value.int .i64 x8), (Value.int .i64 (IntKind.i64.wrap (x8 + 5))), (Value.int .i64 (IntKind.i64.wrap (x8 + 5))), (Value.int .i64 (IntKind.i64.wrap ((Int.tmod (IntKind.i64.wrap (x8 + 2)) 5) + 5)))] 78 (fun b1 H2 => apK T0 78 H2 x4 (Value.slice (some ⟨b1, 0, none⟩) 3 (3 + 1)) (fun v3 H4 => B25 P N24 x2 v3 x8 H4))
theorem q26 P N24 : Q o26 (E k5 (B25 P N24)) k5 (B26 P N24) := fun _ _ _ _ _ => by kernel_rfl
def o27 := O 15466384
def B27 (P : PT) (N24 : Y k5) : Y k5 := fun x2 x4 x8 H =>
  pif (decide ((x8 : Int) < 5)) (B26 P N24 x2 x4 x8 H) (B23 P x2 x4 H)
theorem q27 P N24 : Q o27 (cnd 91 (E k5 (B26 P N24)) (E k1 (B23 P))) k5 (B27 P N24) := fun _ _ _ _ _ => by kernel_rfl
def L24 (P : PT) : Y k5 := fun x2 x4 x8 H =>
  ∃ (I : Y k5) (μ : NTy k5 (AHeap → Nat)), I x2 x4 x8 H ∧ ∀ y2 y4 y8 G, I y2 y4 y8 G → B27 P (fun z2 z4 z8 G' => I z2 z4 z8 G' ∧ μ z2 z4 z8 G' < μ y2 y4 y8 G) y2 y4 y8 G
theorem l24 P : LQ k5 (L24 P) (B27 P) := fun ⟨_,_,_,_⟩ _ ⟨I, μ, h0, hI⟩ => ⟨apT _ I, apT _ μ, h0, fun ⟨_,_,_,_⟩ _ h => hI _ _ _ _  h⟩
def o28 := O 966648
def B28 (P : PT) : Y k1 := fun x2 x4 H =>
  L24 P x2 x4 0 H
theorem q28 P : Q o28 (E k5 (L24 P)) k1 (B28 P) := fun _ _ _ _ => by kernel_rfl
def o29 := O 15466478
def B29 (P : PT) : Y k1 := fun x2 x4 H =>
  newK H [(Value.int .i64 0), (Value.int .i64 1), (Value.int .i64 10), (Value.int .i64 4), (Value.int .i64 11), (Value.int .i64 5)] 78 (fun b1 H2 => apK T0 78 H2 x4 (Value.slice (some ⟨b1, 0, none⟩) 3 (3 + 1)) (fun v3 H4 => AC Tryz.prog T0 141 [(Value.int .i64 12), v3] H4 (fun v5 H6 => agg2 v5 (fun v7 v8 => asI .i64 v7 (fun v9 => stK H6 x2 0 [(Value.int .i64 v9), v8] (fun H11 => ldI .i64 H11 x2 0 (fun v12 => ld1 H11 x2 1 (fun v13 => P (Value.tuple ⟨[(Value.agg ⟨[(Value.int .i64 v12), v13]⟩), (Value.bool true)]⟩) H11))))))))
theorem q29 P : Q o29 (ret P) k1 (B29 P) := fun _ _ _ _ => by kernel_rfl
def o30 := O 7733238
def B30 (P : PT) : Y k1 := fun x2 x4 H =>
  newK H [(Value.int .i64 0), (Value.int .i64 10), (Value.int .i64 11)] 2 (fun b1 H2 => AC Tryz.prog T0 142 [x4, (Value.slice (some ⟨b1, 0, none⟩) 3 (3 + 1))] H2 (fun v3 H4 => B29 P x2 v3 H4))
theorem q30 P : Q o30 (E k1 (B29 P)) k1 (B30 P) := fun _ _ _ _ => by kernel_rfl
abbrev k6 : Sk := [(2,.x),(4,.v),(9,.x),(11,J)]
def o32 := O 123731795
def B32 (P : PT) (N31 : Y k6) : Y k6 := fun x2 x4 x9 x11 H =>
  N31 x2 x4 x9 (IntKind.i64.wrap (x11 + 1)) H
theorem q32 P N31 : Q o32 (E k6 N31) k6 (B32 P N31) := fun _ _ _ _ _ _ => by kernel_rfl
def o33 := O 989854354
def B33 (P : PT) (N31 : Y k6) : Y k6 := fun x2 x4 x9 x11 H =>
  ld1 H x9 1 (fun v1 => idxK v1 x11 2 (fun b2 o3 => ldI .i64 H b2 o3 (fun v4 => ldI .i64 H b2 (o3 + 1) (fun v5 => newK H [(Value.int .i64 v4), (Value.int .i64 v5)] 78 (fun b6 H7 => apK T0 78 H7 x4 (Value.slice (some ⟨b6, 0, none⟩) 1 (1 + 1)) (fun v8 H9 => B32 P N31 x2 v8 x9 x11 H9))))))
theorem q33 P N31 : Q o33 (E k6 (B32 P N31)) k6 (B33 P N31) := fun _ _ _ _ _ _ => by kernel_rfl
def o34 := O 494927176
def B34 (P : PT) (N31 : Y k6) : Y k6 := fun x2 x4 x9 x11 H =>
  ld1 H x9 1 (fun v1 => idxK v1 x11 2 (fun b2 o3 => ldI .i64 H b2 o3 (fun v4 => pif ((v4 : Int) != 0) (B33 P N31 x2 x4 x9 x11 H) (B32 P N31 x2 x4 x9 x11 H))))
theorem q34 P N31 : Q o34 (cnd 134 (E k6 (B33 P N31)) (E k6 (B32 P N31))) k6 (B34 P N31) := fun _ _ _ _ _ _ => by kernel_rfl
def o35 := O 123731792
def B35 (P : PT) (N31 : Y k6) : Y k6 := fun x2 x4 x9 x11 H =>
  ld1 H x9 1 (fun v1 => lenK v1 (fun n2 => pif (decide ((x11 : Int) < (n2 : Int))) (B34 P N31 x2 x4 x9 x11 H) (B30 P x2 x4 H)))
theorem q35 P N31 : Q o35 (cnd 125 (E k6 (B34 P N31)) (E k1 (B30 P))) k6 (B35 P N31) := fun _ _ _ _ _ _ => by kernel_rfl
def L31 (P : PT) : Y k6 := fun x2 x4 x9 x11 H =>
  ∃ (I : Y k6) (μ : NTy k6 (AHeap → Nat)), I x2 x4 x9 x11 H ∧ ∀ y2 y4 y9 y11 G, I y2 y4 y9 y11 G → B35 P (fun z2 z4 z9 z11 G' => I z2 z4 z9 z11 G' ∧ μ z2 z4 z9 z11 G' < μ y2 y4 y9 y11 G) y2 y4 y9 y11 G
theorem l31 P : LQ k6 (L31 P) (B35 P) := fun ⟨_,_,_,_,_⟩ _ ⟨I, μ, h0, hI⟩ => ⟨apT _ I, apT _ μ, h0, fun ⟨_,_,_,_,_⟩ _ h => hI _ _ _ _ _  h⟩
abbrev k7 : Sk := [(2,.x),(4,.v),(9,.x)]
def o36 := O 7733236
def B36 (P : PT) : Y k7 := fun x2 x4 x9 H =>
  L31 P x2 x4 x9 0 H
theorem q36 P : Q o36 (E k6 (L31 P)) k7 (B36 P) := fun _ _ _ _ _ => by kernel_rfl
def o37 := O 1933308
def B37 (P : PT) : Y k1 := fun x2 x4 H =>
  AC Tryz.prog T0 67 [(Value.string (⟨#[112, 101, 116, 101, 114, 115, 101, 110]⟩))] H (fun v1 H2 => tup2 v1 (fun v3 v4 => agg2 v3 (fun v5 v6 => asI .i64 v5 (fun v7 => asB v4 (fun v9 => newK H2 [(Value.int .i64 0), (Value.slice none 0 0)] 26 (fun b10 H11 => stK H11 b10 0 [(Value.int .i64 v7), v6] (fun H12 => B36 P x2 x4 b10 H12)))))))
theorem q37 P : Q o37 (E k7 (B36 P)) k1 (B37 P) := fun _ _ _ _ => by kernel_rfl
def o38 := O 30932982
def B38 (P : PT) : Y k1 := fun x2 x4 H =>
  newK H [(Value.int .i64 10), (Value.int .i64 11), (Value.int .i64 12), (Value.int .i64 13), (Value.int .i64 14), (Value.int .i64 15), (Value.int .i64 16), (Value.int .i64 17), (Value.int .i64 18), (Value.int .i64 19)] 2 (fun b1 H2 => AC Tryz.prog T0 142 [x4, (Value.slice (some ⟨b1, 0, none⟩) 10 (10 + 1))] H2 (fun v3 H4 => AC Tryz.prog T0 141 [(Value.int .i64 20), v3] H4 (fun v6 H7 => agg2 v6 (fun v8 v9 => asI .i64 v8 (fun v10 => stK H7 x2 0 [(Value.int .i64 v10), v9] (fun H12 => ldI .i64 H12 x2 0 (fun v13 => ld1 H12 x2 1 (fun v14 => P (Value.tuple ⟨[(Value.agg ⟨[(Value.int .i64 v13), v14]⟩), (Value.bool true)]⟩) H12))))))))
theorem q38 P : Q o38 (ret P) k1 (B38 P) := fun _ _ _ _ => by kernel_rfl
def o39 := O 15466490
def B39 (P : PT) : Y k1 := fun x2 x4 H =>
  newK H [(Value.int .i64 5), (Value.int .i64 6), (Value.int .i64 7), (Value.int .i64 8), (Value.int .i64 9)] 2 (fun b1 H2 => AC Tryz.prog T0 142 [x4, (Value.slice (some ⟨b1, 0, none⟩) 5 (5 + 1))] H2 (fun v3 H4 => B38 P x2 v3 H4))
theorem q39 P : Q o39 (E k1 (B38 P)) k1 (B39 P) := fun _ _ _ _ => by kernel_rfl
abbrev k8 : Sk := [(2,.x),(4,.v),(12,J)]
def o41 := O 247463827
def B41 (P : PT) (N40 : Y k8) : Y k8 := fun x2 x4 x12 H =>
  N40 x2 x4 (IntKind.i64.wrap (x12 + 1)) H
theorem q41 P N40 : Q o41 (E k8 N40) k8 (B41 P N40) := fun _ _ _ _ _ => by kernel_rfl
def o42 := O 494927652
def B42 (P : PT) (N40 : Y k8) : Y k8 := fun x2 x4 x12 H =>
  newK H [(Value.int .i64 x12), (Value.int .i64 (IntKind.i64.wrap (x12 + 5))), (Value.int .i64 x12), (Value.int .i64 (IntKind.i64.wrap (x12 + 10))), (Value.int .i64 x12), (Value.int .i64 (IntKind.i64.wrap (x12 + 15)))] 78 (fun b1 H2 => apK T0 78 H2 x4 (Value.slice (some ⟨b1, 0, none⟩) 3 (3 + 1)) (fun v3 H4 => B41 P N40 x2 v3 x12 H4))
theorem q42 P N40 : Q o42 (E k8 (B41 P N40)) k8 (B42 P N40) := fun _ _ _ _ _ => by kernel_rfl
def o43 := O 247463824
def B43 (P : PT) (N40 : Y k8) : Y k8 := fun x2 x4 x12 H =>
  pif (decide ((x12 : Int) < 5)) (B42 P N40 x2 x4 x12 H) (B39 P x2 x4 H)
theorem q43 P N40 : Q o43 (cnd 156 (E k8 (B42 P N40)) (E k1 (B39 P))) k8 (B43 P N40) := fun _ _ _ _ _ => by kernel_rfl
def L40 (P : PT) : Y k8 := fun x2 x4 x12 H =>
  ∃ (I : Y k8) (μ : NTy k8 (AHeap → Nat)), I x2 x4 x12 H ∧ ∀ y2 y4 y12 G, I y2 y4 y12 G → B43 P (fun z2 z4 z12 G' => I z2 z4 z12 G' ∧ μ z2 z4 z12 G' < μ y2 y4 y12 G) y2 y4 y12 G
theorem l40 P : LQ k8 (L40 P) (B43 P) := fun ⟨_,_,_,_⟩ _ ⟨I, μ, h0, hI⟩ => ⟨apT _ I, apT _ μ, h0, fun ⟨_,_,_,_⟩ _ h => hI _ _ _ _  h⟩
def o44 := O 15466488
def B44 (P : PT) : Y k1 := fun x2 x4 H =>
  L40 P x2 x4 0 H
theorem q44 P : Q o44 (E k8 (L40 P)) k1 (B44 P) := fun _ _ _ _ => by kernel_rfl
def o45 := O 61865978
def B45 (P : PT) : Y k1 := fun x2 x4 H =>
  newK H [(Value.int .i64 4), (Value.int .i64 9)] 78 (fun b1 H2 => apK T0 78 H2 x4 (Value.slice (some ⟨b1, 0, none⟩) 1 (1 + 1)) (fun v3 H4 => AC Tryz.prog T0 141 [(Value.int .i64 10), v3] H4 (fun v5 H6 => agg2 v5 (fun v7 v8 => asI .i64 v7 (fun v9 => stK H6 x2 0 [(Value.int .i64 v9), v8] (fun H11 => ldI .i64 H11 x2 0 (fun v12 => ld1 H11 x2 1 (fun v13 => P (Value.tuple ⟨[(Value.agg ⟨[(Value.int .i64 v12), v13]⟩), (Value.bool true)]⟩) H11))))))))
theorem q45 P : Q o45 (ret P) k1 (B45 P) := fun _ _ _ _ => by kernel_rfl
abbrev k9 : Sk := [(2,.x),(4,.v),(13,J)]
def o47 := O 989855635
def B47 (P : PT) (N46 : Y k9) : Y k9 := fun x2 x4 x13 H =>
  N46 x2 x4 (IntKind.i64.wrap (x13 + 5)) H
theorem q47 P N46 : Q o47 (E k9 N46) k9 (B47 P N46) := fun _ _ _ _ _ => by kernel_rfl
def o48 := O 1979711268
def B48 (P : PT) (N46 : Y k9) : Y k9 := fun x2 x4 x13 H =>
  newK H [(Value.int .i64 x13), (Value.int .i64 (IntKind.i64.wrap (x13 + 2))), (Value.int .i64 x13), (Value.int .i64 (IntKind.i64.wrap (x13 + 3))), (Value.int .i64 (IntKind.i64.wrap (x13 + 1))), (Value.int .i64 (IntKind.i64.wrap (x13 + 2))), (Value.int .i64 (IntKind.i64.wrap (x13 + 1))), (Value.int .i64 (IntKind.i64.wrap (x13 + 3))), (Value.int .i64 (IntKind.i64.wrap (x13 + 2))), (Value.int .i64 (IntKind.i64.wrap (x13 + 3))), (Value.int .i64 x13), (Value.int .i64 (IntKind.i64.wrap (x13 + 4))), (Value.int .i64 (IntKind.i64.wrap (x13 + 1))), (Value.int .i64 (IntKind.i64.wrap (x13 + 4)))] 78 (fun b1 H2 => apK T0 78 H2 x4 (Value.slice (some ⟨b1, 0, none⟩) 7 (7 + 1)) (fun v3 H4 => B47 P N46 x2 v3 x13 H4))
theorem q48 P N46 : Q o48 (E k9 (B47 P N46)) k9 (B48 P N46) := fun _ _ _ _ _ => by kernel_rfl
def o49 := O 989855632
def B49 (P : PT) (N46 : Y k9) : Y k9 := fun x2 x4 x13 H =>
  pif (decide ((x13 : Int) ≤ 5)) (B48 P N46 x2 x4 x13 H) (B45 P x2 x4 H)
theorem q49 P N46 : Q o49 (cnd 184 (E k9 (B48 P N46)) (E k1 (B45 P))) k9 (B49 P N46) := fun _ _ _ _ _ => by kernel_rfl
def L46 (P : PT) : Y k9 := fun x2 x4 x13 H =>
  ∃ (I : Y k9) (μ : NTy k9 (AHeap → Nat)), I x2 x4 x13 H ∧ ∀ y2 y4 y13 G, I y2 y4 y13 G → B49 P (fun z2 z4 z13 G' => I z2 z4 z13 G' ∧ μ z2 z4 z13 G' < μ y2 y4 y13 G) y2 y4 y13 G
theorem l46 P : LQ k9 (L46 P) (B49 P) := fun ⟨_,_,_,_⟩ _ ⟨I, μ, h0, hI⟩ => ⟨apT _ I, apT _ μ, h0, fun ⟨_,_,_,_⟩ _ h => hI _ _ _ _  h⟩
def o50 := O 61865976
def B50 (P : PT) : Y k1 := fun x2 x4 H =>
  L46 P x2 x4 0 H
theorem q50 P : Q o50 (E k9 (L46 P)) k1 (B50 P) := fun _ _ _ _ => by kernel_rfl
abbrev k10 : Sk := [(2,.x),(4,.v),(15,.s)]
def o51 := O 7733246
def B51 (P : PT) : Y k10 := fun x2 x4 x15 H =>
  pif (ByteArray.toList x15 == ByteArray.toList (⟨#[98, 114, 105, 100, 103, 101]⟩)) (B50 P x2 x4 H) (B1 P x2 H)
theorem q51 P : Q o51 (cnd 181 (E k1 (B50 P)) (E k0 (B1 P))) k10 (B51 P) := fun _ _ _ _ _ => by kernel_rfl
def o52 := O 1933310
def B52 (P : PT) : Y k10 := fun x2 x4 x15 H =>
  pif (ByteArray.toList x15 == ByteArray.toList (⟨#[102, 108, 111, 119, 101, 114, 53]⟩)) (B44 P x2 x4 H) (B51 P x2 x4 x15 H)
theorem q52 P : Q o52 (cnd 153 (E k1 (B44 P)) (E k10 (B51 P))) k10 (B52 P) := fun _ _ _ _ _ => by kernel_rfl
def o53 := O 483326
def B53 (P : PT) : Y k10 := fun x2 x4 x15 H =>
  pif (ByteArray.toList x15 == ByteArray.toList (⟨#[116, 105, 101, 116, 122, 101]⟩)) (B37 P x2 x4 H) (B52 P x2 x4 x15 H)
theorem q53 P : Q o53 (cnd 115 (E k1 (B37 P)) (E k10 (B52 P))) k10 (B53 P) := fun _ _ _ _ _ => by kernel_rfl
def o54 := O 120830
def B54 (P : PT) : Y k10 := fun x2 x4 x15 H =>
  pif (ByteArray.toList x15 == ByteArray.toList (⟨#[112, 101, 116, 101, 114, 115, 101, 110]⟩)) (B28 P x2 x4 H) (B53 P x2 x4 x15 H)
theorem q54 P : Q o54 (cnd 88 (E k1 (B28 P)) (E k10 (B53 P))) k10 (B54 P) := fun _ _ _ _ _ => by kernel_rfl
def o55 := O 30206
def B55 (P : PT) : Y k10 := fun x2 x4 x15 H =>
  pif (ByteArray.toList x15 == ByteArray.toList (⟨#[99, 117, 98, 101]⟩)) (B22 P x2 x4 H) (B54 P x2 x4 x15 H)
theorem q55 P : Q o55 (cnd 64 (E k1 (B22 P)) (E k10 (B54 P))) k10 (B55 P) := fun _ _ _ _ _ => by kernel_rfl
def o56 := O 7550
def B56 (P : PT) : Y k10 := fun x2 x4 x15 H =>
  pif (ByteArray.toList x15 == ByteArray.toList (⟨#[112, 114, 105, 115, 109]⟩)) (B11 P x2 x4 H) (B55 P x2 x4 x15 H)
theorem q56 P : Q o56 (cnd 50 (E k1 (B11 P)) (E k10 (B55 P))) k10 (B56 P) := fun _ _ _ _ _ => by kernel_rfl
def o57 := O 1886
def B57 (P : PT) : Y k10 := fun x2 x4 x15 H =>
  pif (ByteArray.toList x15 == ByteArray.toList (⟨#[107, 51, 51]⟩)) (B9 P x2 x4 H) (B56 P x2 x4 x15 H)
theorem q57 P : Q o57 (cnd 33 (E k1 (B9 P)) (E k10 (B56 P))) k10 (B57 P) := fun _ _ _ _ _ => by kernel_rfl
def o58 := O 470
def B58 (P : PT) : Y k10 := fun x2 x4 x15 H =>
  pif (ByteArray.toList x15 == ByteArray.toList (⟨#[107, 52]⟩)) (B3 P x2 H) (B57 P x2 x4 x15 H)
theorem q58 P : Q o58 (cnd 23 (E k0 (B3 P)) (E k10 (B57 P))) k10 (B58 P) := fun _ _ _ _ _ => by kernel_rfl
def o59 := O 116
def B59 (P : PT) : Y k10 := fun x2 x4 x15 H =>
  pif (ByteArray.toList x15 == ByteArray.toList (⟨#[116, 104, 101, 116, 97]⟩)) (B2 P x2 H) (B58 P x2 x4 x15 H)
theorem q59 P : Q o59 (cnd 16 (E k0 (B2 P)) (E k10 (B58 P))) k10 (B59 P) := fun _ _ _ _ _ => by kernel_rfl
abbrev k11 : Sk := [(0,.s),(2,.x),(4,.v)]
def o60 := O 28
def B60 (P : PT) : Y k11 := fun x0 x2 x4 H =>
  B59 P x2 x4 x0 H
theorem q60 P : Q o60 (E k10 (B59 P)) k11 (B60 P) := fun _ _ _ _ _ => by kernel_rfl
abbrev k12 : Sk := [(0,.s),(2,.x)]
def o61 := O 6
def B61 (P : PT) : Y k12 := fun x0 x2 H =>
  newK H [] 78 (fun b1 H2 => B60 P x0 x2 (Value.slice (some ⟨b1, 0, none⟩) 0 (0 + 1)) H2)
theorem q61 P : Q o61 (E k11 (B60 P)) k12 (B61 P) := fun _ _ _ _ => by kernel_rfl
abbrev k13 : Sk := [(0,.s)]
def o62 := O 2
def B62 (P : PT) : Y k13 := fun x0 H =>
  newK H [(Value.int .i64 0), (Value.slice none 0 0)] 26 (fun b1 H2 => B61 P x0 b1 H2)
theorem q62 P : Q o62 (E k12 (B61 P)) k13 (B62 P) := fun _ _ _ => by kernel_rfl
def code : Code := (.seq (R 0 o62) (.seq (R 1 o61) (.seq (.seq (R 2 o60) (.block 0 (.seq (R 3 o59) (.cond (.tmp 16) (.seq (R 4 o2) .ret) (.seq (R 5 o58) (.cond (.tmp 23) (.seq (R 6 o3) .ret) (.seq (R 7 o57) (.cond (.tmp 33) (.seq (.seq (R 8 o9) (.block 1 (.loop (.seq (.seq (R 9 o8) (.cond (.tmp 36) .skip (.exit 1))) (.seq (.block 2 (R 11 o7)) (R 10 o6)))))) (.seq (R 12 o4) .ret)) (.seq (R 13 o56) (.cond (.tmp 50) (.seq (R 14 o11) (.seq (R 15 o10) .ret)) (.seq (R 16 o55) (.cond (.tmp 64) (.seq (.seq (R 17 o22) (.block 3 (.loop (.seq (.seq (R 18 o21) (.cond (.tmp 67) .skip (.exit 3))) (.seq (.block 4 (.seq (R 20 o20) (.block 5 (.loop (.seq (.seq (R 21 o19) (.cond (.tmp 71) .skip (.exit 5))) (.seq (.block 6 (.seq (R 23 o18) (.cond (.tmp 77) (R 24 o17) .skip))) (R 22 o16))))))) (R 19 o14)))))) (.seq (R 25 o12) .ret)) (.seq (R 26 o54) (.cond (.tmp 88) (.seq (.seq (R 27 o28) (.block 7 (.loop (.seq (.seq (R 28 o27) (.cond (.tmp 91) .skip (.exit 7))) (.seq (.block 8 (R 30 o26)) (R 29 o25)))))) (.seq (R 31 o23) .ret)) (.seq (R 32 o53) (.cond (.tmp 115) (.seq (R 33 o37) (.seq (.seq (R 34 o36) (.block 9 (.loop (.seq (.seq (R 35 o35) (.cond (.tmp 125) .skip (.exit 9))) (.seq (.block 10 (.seq (R 37 o34) (.cond (.tmp 134) (R 38 o33) .skip))) (R 36 o32)))))) (.seq (R 39 o30) (.seq (R 40 o29) .ret)))) (.seq (R 41 o52) (.cond (.tmp 153) (.seq (.seq (R 42 o44) (.block 11 (.loop (.seq (.seq (R 43 o43) (.cond (.tmp 156) .skip (.exit 11))) (.seq (.block 12 (R 45 o42)) (R 44 o41)))))) (.seq (R 46 o39) (.seq (R 47 o38) .ret))) (.seq (R 48 o51) (.cond (.tmp 181) (.seq (.seq (R 49 o50) (.block 13 (.loop (.seq (.seq (R 50 o49) (.cond (.tmp 184) .skip (.exit 13))) (.seq (.block 14 (R 52 o48)) (R 51 o47)))))) (.seq (R 53 o45) .ret)) .skip)))))))))))))))))))) (.seq (R 54 o1) .ret))))
theorem body : Tryz.f67.body = some code := by kernel_rfl
theorem main (P : PT) : ∀ env H, (En 228 k13 (B62 P)) env H → AW Tryz.prog T0 code env H (M (ret P)) :=
  (r_seq (b (q62 P)) (r_seq (b (q61 P)) (r_seq (r_seq (b (q60 P)) (r_block (r_seq (b (q59 P)) (r_cond rfl (r_seq (b (q2 P)) r_ret) (r_seq (b (q58 P)) (r_cond rfl (r_seq (b (q3 P)) r_ret) (r_seq (b (q57 P)) (r_cond rfl (r_seq (r_seq (b (q9 P)) (r_block (rL (l5 P) (fun N5 => (r_seq (r_seq (b (q8 P N5)) (r_cond rfl r_skip (r_exit (fun _ _ h => h)))) (r_seq (r_block (b (q7 P N5))) (b (q6 P N5)))))))) (r_seq (b (q4 P)) r_ret)) (r_seq (b (q56 P)) (r_cond rfl (r_seq (b (q11 P)) (r_seq (b (q10 P)) r_ret)) (r_seq (b (q55 P)) (r_cond rfl (r_seq (r_seq (b (q22 P)) (r_block (rL (l13 P) (fun N13 => (r_seq (r_seq (b (q21 P N13)) (r_cond rfl r_skip (r_exit (fun _ _ h => h)))) (r_seq (r_block (r_seq (b (q20 P N13)) (r_block (rL (l15 P N13) (fun N15 => (r_seq (r_seq (b (q19 P N13 N15)) (r_cond rfl r_skip (r_exit (fun _ _ h => h)))) (r_seq (r_block (r_seq (b (q18 P N13 N15)) (r_cond rfl (b (q17 P N13 N15)) r_skip))) (b (q16 P N13 N15))))))))) (b (q14 P N13)))))))) (r_seq (b (q12 P)) r_ret)) (r_seq (b (q54 P)) (r_cond rfl (r_seq (r_seq (b (q28 P)) (r_block (rL (l24 P) (fun N24 => (r_seq (r_seq (b (q27 P N24)) (r_cond rfl r_skip (r_exit (fun _ _ h => h)))) (r_seq (r_block (b (q26 P N24))) (b (q25 P N24)))))))) (r_seq (b (q23 P)) r_ret)) (r_seq (b (q53 P)) (r_cond rfl (r_seq (b (q37 P)) (r_seq (r_seq (b (q36 P)) (r_block (rL (l31 P) (fun N31 => (r_seq (r_seq (b (q35 P N31)) (r_cond rfl r_skip (r_exit (fun _ _ h => h)))) (r_seq (r_block (r_seq (b (q34 P N31)) (r_cond rfl (b (q33 P N31)) r_skip))) (b (q32 P N31)))))))) (r_seq (b (q30 P)) (r_seq (b (q29 P)) r_ret)))) (r_seq (b (q52 P)) (r_cond rfl (r_seq (r_seq (b (q44 P)) (r_block (rL (l40 P) (fun N40 => (r_seq (r_seq (b (q43 P N40)) (r_cond rfl r_skip (r_exit (fun _ _ h => h)))) (r_seq (r_block (b (q42 P N40))) (b (q41 P N40)))))))) (r_seq (b (q39 P)) (r_seq (b (q38 P)) r_ret))) (r_seq (b (q51 P)) (r_cond rfl (r_seq (r_seq (b (q50 P)) (r_block (rL (l46 P) (fun N46 => (r_seq (r_seq (b (q49 P N46)) (r_cond rfl r_skip (r_exit (fun _ _ h => h)))) (r_seq (r_block (b (q48 P N46))) (b (q47 P N46)))))))) (r_seq (b (q45 P)) r_ret)) r_skip)))))))))))))))))))) (r_seq (b (q1 P)) r_ret))))
theorem ac (P : PT) (x0 : ByteArray) (H : AHeap) (h : B62 P x0 H) : AC Tryz.prog T0 67 [(Value.string x0)] H P :=
  r_fn T0_ok (c := code) (n := 228) Tryz.func67 body (by kernel_rfl) (main P) (En_mk (x0, ()) (by kernel_rfl) ⟨by kernel_rfl, trivial⟩ h)

end F67
namespace F68
abbrev E := En 69
abbrev Q := QB Tryz.prog T0 69
def O (k : Nat) := ob Tryz.f68 (pth k)
def ret (P : PT) : EP := retE T0 69 Tryz.f68 P
abbrev k0 : Sk := [(3,.x),(4,.x),(5,.v)]
def o1 := O 30
def B1 (P : PT) : Y k0 := fun x3 x4 x5 H =>
  ldI .i64 H x3 0 (fun v1 => pif (Value.oneCell' x5) (stK H x4 0 [(Value.int .i64 v1), x5] (fun H2 => ldI .i64 H2 x4 0 (fun v3 => ld1 H2 x4 1 (fun v4 => P (Value.agg ⟨[(Value.int .i64 v3), v4]⟩) H2)))) False)
theorem q1 P : Q o1 (ret P) k0 (B1 P) := fun _ _ _ _ _ => by kernel_rfl
abbrev k1 : Sk := [(0,.v),(3,.x),(4,.x),(5,.v)]
def o2 := O 468
def B2 (P : PT) : Y k1 := fun x0 x3 x4 x5 H =>
  ldI .i64 H x3 0 (fun v1 => newK H [(Value.int .i64 0), (Value.int .i64 3), (Value.int .i64 22), (Value.int .i64 (-2)), (Value.int .i64 (IntKind.i64.wrap (v1 + 2)))] 2 (fun b2 H3 => AC Tryz.prog T0 83 [x0, (Value.slice (some ⟨b2, 0, none⟩) 5 (5 + 1))] H3 (fun v4 H5 => asI .i64 v4 (fun v6 => pif (Value.oneCell' x5) (stK H5 x4 0 [(Value.int .i64 v6), x5] (fun H7 => ldI .i64 H7 x4 0 (fun v8 => ld1 H7 x4 1 (fun v9 => P (Value.agg ⟨[(Value.int .i64 v8), v9]⟩) H7)))) False))))
theorem q2 P : Q o2 (ret P) k1 (B2 P) := fun _ _ _ _ _ _ => by kernel_rfl
def o3 := O 942
def B3 (P : PT) : Y k1 := fun x0 x3 x4 x5 H =>
  lenK x5 (fun n1 => ldI .i64 H x3 0 (fun v2 => ldI .i64 H x3 0 (fun v3 => (AC Tryz.prog T0 66 [x0, (Value.int .i64 (n1 : Int))] H (fun v4 H5 => asI .i64 v4 (fun v6 => (ldI .i64 H5 x3 0 (fun v7 => ((Value.int .i64 v7) = (Value.int .i64 v2)) ∧ (H5 = H5))) ∧ ((ldI .i64 H5 x3 0 (fun v8 => ((Value.int .i64 v8) = (Value.int .i64 v3)) ∧ (H5 = H5))) ∧ ((AC Tryz.prog T0 66 [x0, (Value.int .i64 v2)] H5 (fun v9 H10 => asI .i64 v9 (fun v11 => (ldI .i64 H10 x3 0 (fun v12 => ((Value.int .i64 v12) = (Value.int .i64 v3)) ∧ (H10 = H10))) ∧ (newK H10 [(Value.int .i64 (-1)), (Value.int .i64 v3), (Value.int .i64 0)] 2 (fun b13 H14 => AC Tryz.prog T0 83 [x0, (Value.slice (some ⟨b13, 0, none⟩) 3 (3 + 1))] H14 (fun v15 H16 => asI .i64 v15 (fun v17 => idxK x5 v6 2 (fun b18 o19 => stK H16 b18 o19 [(Value.int .i64 v11), (Value.int .i64 v17)] (fun H20 => B1 P x3 x4 x5 H20))))))))) ∧ (newK H5 [(Value.int .i64 (-1)), (Value.int .i64 v3), (Value.int .i64 0)] 2 (fun b21 H22 => AC Tryz.prog T0 66 [x0, (Value.int .i64 v2)] H22 (fun v23 H24 => asI .i64 v23 (fun v25 => (ldI .i64 H24 x3 0 (fun v26 => ((Value.int .i64 v26) = (Value.int .i64 v3)) ∧ (H24 = H24))) ∧ (AC Tryz.prog T0 83 [x0, (Value.slice (some ⟨b21, 0, none⟩) 3 (3 + 1))] H24 (fun v27 H28 => asI .i64 v27 (fun v29 => idxK x5 v6 2 (fun b30 o31 => stK H28 b30 o31 [(Value.int .i64 v25), (Value.int .i64 v29)] (fun H32 => B1 P x3 x4 x5 H32)))))))))))))) ∧ (newK H [(Value.int .i64 (-1)), (Value.int .i64 v3), (Value.int .i64 0)] 2 (fun b33 H34 => AC Tryz.prog T0 66 [x0, (Value.int .i64 (n1 : Int))] H34 (fun v35 H36 => asI .i64 v35 (fun v37 => (ldI .i64 H36 x3 0 (fun v38 => ((Value.int .i64 v38) = (Value.int .i64 v2)) ∧ (H36 = H36))) ∧ ((ldI .i64 H36 x3 0 (fun v39 => ((Value.int .i64 v39) = (Value.int .i64 v3)) ∧ (H36 = H36))) ∧ (AC Tryz.prog T0 66 [x0, (Value.int .i64 v2)] H36 (fun v40 H41 => asI .i64 v40 (fun v42 => (ldI .i64 H41 x3 0 (fun v43 => ((Value.int .i64 v43) = (Value.int .i64 v3)) ∧ (H41 = H41))) ∧ (AC Tryz.prog T0 83 [x0, (Value.slice (some ⟨b33, 0, none⟩) 3 (3 + 1))] H41 (fun v44 H45 => asI .i64 v44 (fun v46 => idxK x5 v37 2 (fun b47 o48 => stK H45 b47 o48 [(Value.int .i64 v42), (Value.int .i64 v46)] (fun H49 => B1 P x3 x4 x5 H49))))))))))))))))
theorem q3 (P : PT) : QT Tryz.prog T0 69 o3 (.op 0 [] (.op 1 [] (.op 2 [] (.op 3 [] (.op 5 [] (.op 6 [] (.op 7 [] (.op 9 [] (.op 10 [] (.op 11 [] (.alt (.op 4 [7, 11] (.alt (.op 8 [11] (.op 12 [] (.op 13 [] (.op 14 [] (.op 15 [] (.op 16 [] .done)))))) (.op 12 [] (.op 8 [11] (.op 13 [] (.op 14 [] (.op 15 [] (.op 16 [] .done)))))))) (.op 12 [] (.op 4 [7, 11] (.op 8 [11] (.op 13 [] (.op 14 [] (.op 15 [] (.op 16 [] .done)))))))))))))))))) (En 69 k0 (B1 P)) k1 (B3 P) := fun _ _ _ _ _ _  => by kernel_rfl
abbrev k2 : Sk := [(3,.x),(4,.x),(5,.v),(6,.x)]
def o4 := O 15099
def B4 (P : PT) : Y k2 := fun x3 x4 x5 x6 H =>
  lenK x5 (fun n1 => ldI .i64 H x6 0 (fun v2 => ldI .i64 H x6 1 (fun v3 => idxK x5 (IntKind.i64.wrap ((n1 : Int) - 1)) 2 (fun b4 o5 => stK H b4 o5 [(Value.int .i64 v2), (Value.int .i64 v3)] (fun H6 => B1 P x3 x4 x5 H6)))))
theorem q4 P : Q o4 (E k0 (B1 P)) k2 (B4 P) := fun _ _ _ _ _ _ => by kernel_rfl
def o5 := O 15098
def B5 (P : PT) : Y k2 := fun x3 x4 x5 x6 H =>
  lenK x5 (fun n1 => idxK x5 (IntKind.i64.wrap ((n1 : Int) - 1)) 2 (fun b2 o3 => ldI .i64 H b2 o3 (fun v4 => ldI .i64 H b2 (o3 + 1) (fun v5 => idxK x5 0 2 (fun b6 o7 => stK H b6 o7 [(Value.int .i64 v4), (Value.int .i64 v5)] (fun H8 => B4 P x3 x4 x5 x6 H8))))))
theorem q5 P : Q o5 (E k2 (B4 P)) k2 (B5 P) := fun _ _ _ _ _ _ => by kernel_rfl
def o6 := O 7548
def B6 (P : PT) : Y k0 := fun x3 x4 x5 H =>
  idxK x5 0 2 (fun b1 o2 => ldI .i64 H b1 o2 (fun v3 => ldI .i64 H b1 (o2 + 1) (fun v4 => newK H [(Value.int .i64 0), (Value.int .i64 0)] 78 (fun b5 H6 => stK H6 b5 0 [(Value.int .i64 v3), (Value.int .i64 v4)] (fun H7 => B5 P x3 x4 x5 b5 H7)))))
theorem q6 P : Q o6 (E k2 (B5 P)) k0 (B6 P) := fun _ _ _ _ _ => by kernel_rfl
def o7 := O 15102
def B7 (P : PT) : Y k0 := fun x3 x4 x5 H =>
  sliceK H 78 x5 (some (Value.int .i64 1)) none 2 (fun v1 => B1 P x3 x4 v1 H)
theorem q7 P : Q o7 (E k0 (B1 P)) k0 (B7 P) := fun _ _ _ _ _ => by kernel_rfl
abbrev k3 : Sk := [(3,.x),(4,.x)]
def o8 := O 30206
def B8 (P : PT) : Y k3 := fun x3 x4 H =>
  ldI .i64 H x3 0 (fun v1 => ld1 H x3 1 (fun v2 => stK H x4 0 [(Value.int .i64 v1), v2] (fun H3 => ldI .i64 H3 x4 0 (fun v4 => ld1 H3 x4 1 (fun v5 => P (Value.agg ⟨[(Value.int .i64 v4), v5]⟩) H3)))))
theorem q8 P : Q o8 (ret P) k3 (B8 P) := fun _ _ _ _ => by kernel_rfl
abbrev k4 : Sk := [(3,.x),(4,.x),(5,.v),(12,J)]
def o9 := O 7550
def B9 (P : PT) : Y k4 := fun x3 x4 x5 x12 H =>
  pif ((x12 : Int) == 3) (B7 P x3 x4 x5 H) (B8 P x3 x4 H)
theorem q9 P : Q o9 (cnd 61 (E k0 (B7 P)) (E k3 (B8 P))) k4 (B9 P) := fun _ _ _ _ _ _ => by kernel_rfl
def o10 := O 1886
def B10 (P : PT) : Y k4 := fun x3 x4 x5 x12 H =>
  pif ((x12 : Int) == 2) (B6 P x3 x4 x5 H) (B9 P x3 x4 x5 x12 H)
theorem q10 P : Q o10 (cnd 42 (E k0 (B6 P)) (E k4 (B9 P))) k4 (B10 P) := fun _ _ _ _ _ _ => by kernel_rfl
abbrev k5 : Sk := [(0,.v),(3,.x),(4,.x),(5,.v),(12,J)]
def o11 := O 470
def B11 (P : PT) : Y k5 := fun x0 x3 x4 x5 x12 H =>
  pif ((x12 : Int) == 1) (B3 P x0 x3 x4 x5 H) (B10 P x3 x4 x5 x12 H)
theorem q11 P : Q o11 (cnd 24 (E k1 (B3 P)) (E k4 (B10 P))) k5 (B11 P) := fun _ _ _ _ _ _ _ => by kernel_rfl
def o12 := O 116
def B12 (P : PT) : Y k5 := fun x0 x3 x4 x5 x12 H =>
  pif ((x12 : Int) == 0) (B2 P x0 x3 x4 x5 H) (B11 P x0 x3 x4 x5 x12 H)
theorem q12 P : Q o12 (cnd 14 (E k1 (B2 P)) (E k5 (B11 P))) k5 (B12 P) := fun _ _ _ _ _ _ _ => by kernel_rfl
def o13 := O 28
def B13 (P : PT) : Y k1 := fun x0 x3 x4 x5 H =>
  AC Tryz.prog T0 66 [x0, (Value.int .i64 50)] H (fun v1 H2 => asI .i64 v1 (fun v3 => B12 P x0 x3 x4 x5 v3 H2))
theorem q13 P : Q o13 (E k5 (B12 P)) k1 (B13 P) := fun _ _ _ _ _ _ => by kernel_rfl
abbrev k6 : Sk := [(0,.v),(3,.x),(4,.x)]
def o14 := O 6
def B14 (P : PT) : Y k6 := fun x0 x3 x4 H =>
  newK H [] 78 (fun b1 H2 => ld1 H2 x3 1 (fun v3 => apK T0 78 H2 (Value.slice (some ⟨b1, 0, none⟩) 0 (0 + 1)) v3 (fun v4 H5 => B13 P x0 x3 x4 v4 H5)))
theorem q14 P : Q o14 (E k1 (B13 P)) k6 (B14 P) := fun _ _ _ _ _ => by kernel_rfl
abbrev k7 : Sk := [(0,.v),(1,.g [.i,.v])]
def o15 := O 2
def B15 (P : PT) : Y k7 := fun x0 x1a x1b H =>
  newK H [(Value.int .i64 x1a), x1b] 26 (fun b1 H2 => newK H2 [(Value.int .i64 0), (Value.slice none 0 0)] 26 (fun b3 H4 => B14 P x0 b1 b3 H4))
theorem q15 P : Q o15 (E k6 (B14 P)) k7 (B15 P) := fun _ _ _ _ _ => by kernel_rfl
def code : Code := (.seq (R 0 o15) (.seq (R 1 o14) (.seq (.seq (R 2 o13) (.block 0 (.seq (R 4 o12) (.cond (.tmp 14) (.seq (R 5 o2) .ret) (.seq (R 6 o11) (.cond (.tmp 24) (.region 7 ⟨o3⟩ true) (.seq (R 8 o10) (.cond (.tmp 42) (.seq (R 9 o6) (.seq (R 10 o5) (R 11 o4))) (.seq (R 12 o9) (.cond (.tmp 61) (R 13 o7) (.seq (R 3 o8) .ret))))))))))) (.seq (R 14 o1) .ret))))
theorem body : Tryz.f68.body = some code := by kernel_rfl
theorem main (P : PT) : ∀ env H, (En 69 k7 (B15 P)) env H → AW Tryz.prog T0 code env H (M (ret P)) :=
  (r_seq (b (q15 P)) (r_seq (b (q14 P)) (r_seq (r_seq (b (q13 P)) (r_block (r_seq (b (q12 P)) (r_cond rfl (r_seq (b (q2 P)) r_ret) (r_seq (b (q11 P)) (r_cond rfl (rT T0_ok mixed (.op 0 [] (.op 1 [] (.op 2 [] (.op 3 [] (.op 5 [] (.op 6 [] (.op 7 [] (.op 9 [] (.op 10 [] (.op 11 [] (.alt (.op 4 [7, 11] (.alt (.op 8 [11] (.op 12 [] (.op 13 [] (.op 14 [] (.op 15 [] (.op 16 [] .done)))))) (.op 12 [] (.op 8 [11] (.op 13 [] (.op 14 [] (.op 15 [] (.op 16 [] .done)))))))) (.op 12 [] (.op 4 [7, 11] (.op 8 [11] (.op 13 [] (.op 14 [] (.op 15 [] (.op 16 [] .done)))))))))))))))))) (by kernel_rfl) (q3 P)) (r_seq (b (q10 P)) (r_cond rfl (r_seq (b (q6 P)) (r_seq (b (q5 P)) (b (q4 P)))) (r_seq (b (q9 P)) (r_cond rfl (b (q7 P)) (r_seq (b (q8 P)) r_ret))))))))))) (r_seq (b (q1 P)) r_ret))))
theorem ac (P : PT) (x0 : Value) (x1a : Int) (x1b : Value) (H : AHeap) (h : B15 P x0 x1a x1b H) : AC Tryz.prog T0 68 [x0, (Value.agg ⟨[(Value.int .i64 x1a), x1b]⟩)] H P :=
  r_fn T0_ok (c := code) (n := 69) Tryz.func68 body (by kernel_rfl) (main P) (En_mk (x0, x1a, x1b, ()) (by kernel_rfl) ⟨by kernel_rfl, by kernel_rfl, trivial⟩ h)

end F68
namespace F69
abbrev E := En 41
abbrev Q := QB Tryz.prog T0 41
def O (k : Nat) := ob Tryz.f69 (pth k)
def ret (P : PT) : EP := retE T0 41 Tryz.f69 P
abbrev k0 : Sk := [(2,.x),(4,.x),(5,.v)]
def o1 := O 30
def B1 (P : PT) : Y k0 := fun x2 x4 x5 H =>
  ldI .i64 H x2 0 (fun v1 => AC Tryz.prog T0 141 [(Value.int .i64 v1), x5] H (fun v2 H3 => agg2 v2 (fun v4 v5 => asI .i64 v4 (fun v6 => stK H3 x4 0 [(Value.int .i64 v6), v5] (fun H8 => ldI .i64 H8 x4 0 (fun v9 => ld1 H8 x4 1 (fun v10 => P (Value.agg ⟨[(Value.int .i64 v9), v10]⟩) H8)))))))
theorem q1 P : Q o1 (ret P) k0 (B1 P) := fun _ _ _ _ _ => by kernel_rfl
abbrev k1 : Sk := [(1,.v),(2,.x),(4,.x),(5,.v),(6,J)]
def o3 := O 467
def B3 (P : PT) (N2 : Y k1) : Y k1 := fun x1 x2 x4 x5 x6 H =>
  N2 x1 x2 x4 x5 (IntKind.i64.wrap (x6 + 1)) H
theorem q3 P N2 : Q o3 (E k1 N2) k1 (B3 P N2) := fun _ _ _ _ _ _ _ => by kernel_rfl
def o4 := O 932
def B4 (P : PT) (N2 : Y k1) : Y k1 := fun x1 x2 x4 x5 x6 H =>
  ld1 H x2 1 (fun v1 => idxK v1 x6 2 (fun b2 o3 => ldI .i64 H b2 o3 (fun v4 => idxK x1 v4 1 (fun b5 o6 => ldI .i64 H b5 o6 (fun v7 => ld1 H x2 1 (fun v8 => idxK v8 x6 2 (fun b9 o10 => ldI .i64 H b9 (o10 + 1) (fun v11 => idxK x1 v11 1 (fun b12 o13 => ldI .i64 H b12 o13 (fun v14 => newK H [(Value.int .i64 v7), (Value.int .i64 v14)] 78 (fun b15 H16 => apK T0 78 H16 x5 (Value.slice (some ⟨b15, 0, none⟩) 1 (1 + 1)) (fun v17 H18 => B3 P N2 x1 x2 x4 v17 x6 H18))))))))))))
theorem q4 (P : PT) (N2 : Y k1) : QD Tryz.prog T0 41 o4 [(0, false), (1, false), (2, false), (3, false), (4, false), (5, false), (6, false), (7, false), (8, false), (9, false), (10, false), (11, false), (12, false), (13, false), (14, false), (15, false), (16, false), (17, false), (18, false), (19, false), (20, false), (21, false), (22, false)] (En 41 k1 (B3 P N2)) k1 (B4 P N2) := fun _ _ _ _ _ _ _  => by kernel_rfl
def o5 := O 464
def B5 (P : PT) (N2 : Y k1) : Y k1 := fun x1 x2 x4 x5 x6 H =>
  ld1 H x2 1 (fun v1 => lenK v1 (fun n2 => pif (decide ((x6 : Int) < (n2 : Int))) (B4 P N2 x1 x2 x4 x5 x6 H) (B1 P x2 x4 x5 H)))
theorem q5 P N2 : Q o5 (cnd 12 (E k1 (B4 P N2)) (E k0 (B1 P))) k1 (B5 P N2) := fun _ _ _ _ _ _ _ => by kernel_rfl
def L2 (P : PT) : Y k1 := fun x1 x2 x4 x5 x6 H =>
  ∃ (I : Y k1) (μ : NTy k1 (AHeap → Nat)), I x1 x2 x4 x5 x6 H ∧ ∀ y1 y2 y4 y5 y6 G, I y1 y2 y4 y5 y6 G → B5 P (fun z1 z2 z4 z5 z6 G' => I z1 z2 z4 z5 z6 G' ∧ μ z1 z2 z4 z5 z6 G' < μ y1 y2 y4 y5 y6 G) y1 y2 y4 y5 y6 G
theorem l2 P : LQ k1 (L2 P) (B5 P) := fun ⟨_,_,_,_,_,_⟩ _ ⟨I, μ, h0, hI⟩ => ⟨apT _ I, apT _ μ, h0, fun ⟨_,_,_,_,_,_⟩ _ h => hI _ _ _ _ _ _  h⟩
abbrev k2 : Sk := [(1,.v),(2,.x),(4,.x),(5,.v)]
def o6 := O 28
def B6 (P : PT) : Y k2 := fun x1 x2 x4 x5 H =>
  L2 P x1 x2 x4 x5 0 H
theorem q6 P : Q o6 (E k1 (L2 P)) k2 (B6 P) := fun _ _ _ _ _ _ => by kernel_rfl
abbrev k3 : Sk := [(1,.v),(2,.x),(4,.x)]
def o7 := O 6
def B7 (P : PT) : Y k3 := fun x1 x2 x4 H =>
  newK H [] 78 (fun b1 H2 => B6 P x1 x2 x4 (Value.slice (some ⟨b1, 0, none⟩) 0 (0 + 1)) H2)
theorem q7 P : Q o7 (E k2 (B6 P)) k3 (B7 P) := fun _ _ _ _ _ => by kernel_rfl
abbrev k4 : Sk := [(0,.g [.i,.v]),(1,.v)]
def o8 := O 2
def B8 (P : PT) : Y k4 := fun x0a x0b x1 H =>
  newK H [(Value.int .i64 x0a), x0b] 26 (fun b1 H2 => newK H2 [(Value.int .i64 0), (Value.slice none 0 0)] 26 (fun b3 H4 => B7 P x1 b1 b3 H4))
theorem q8 P : Q o8 (E k3 (B7 P)) k4 (B8 P) := fun _ _ _ _ _ => by kernel_rfl
def code : Code := (.seq (R 0 o8) (.seq (R 1 o7) (.seq (.seq (R 2 o6) (.block 0 (.loop (.seq (.seq (R 3 o5) (.cond (.tmp 12) .skip (.exit 0))) (.seq (.block 1 (.region 5 ⟨o4⟩ true)) (R 4 o3)))))) (.seq (R 6 o1) .ret))))
theorem body : Tryz.f69.body = some code := by kernel_rfl
theorem main (P : PT) : ∀ env H, (En 41 k4 (B8 P)) env H → AW Tryz.prog T0 code env H (M (ret P)) :=
  (r_seq (b (q8 P)) (r_seq (b (q7 P)) (r_seq (r_seq (b (q6 P)) (r_block (rL (l2 P) (fun N2 => (r_seq (r_seq (b (q5 P N2)) (r_cond rfl r_skip (r_exit (fun _ _ h => h)))) (r_seq (r_block (rD T0_ok mixed [(0, false), (1, false), (2, false), (3, false), (4, false), (5, false), (6, false), (7, false), (8, false), (9, false), (10, false), (11, false), (12, false), (13, false), (14, false), (15, false), (16, false), (17, false), (18, false), (19, false), (20, false), (21, false), (22, false)] (by kernel_rfl) (q4 P N2))) (b (q3 P N2)))))))) (r_seq (b (q1 P)) r_ret))))
theorem ac (P : PT) (x0a : Int) (x0b x1 : Value) (H : AHeap) (h : B8 P x0a x0b x1 H) : AC Tryz.prog T0 69 [(Value.agg ⟨[(Value.int .i64 x0a), x0b]⟩), x1] H P :=
  r_fn T0_ok (c := code) (n := 41) Tryz.func69 body (by kernel_rfl) (main P) (En_mk (x0a, x0b, x1, ()) (by kernel_rfl) ⟨by kernel_rfl, by kernel_rfl, trivial⟩ h)

end F69
namespace F70
abbrev E := En 30
abbrev Q := QB Tryz.prog T0 30
def O (k : Nat) := ob Tryz.f70 (pth k)
def ret (P : PT) : EP := retE T0 30 Tryz.f70 P
abbrev k0 : Sk := [(5,.v)]
def o1 := O 30
def B1 (P : PT) : Y k0 := fun x5 H =>
  P x5 H
theorem q1 P : Q o1 (ret P) k0 (B1 P) := fun _ _ _ => by kernel_rfl
abbrev k1 : Sk := [(0,.v),(1,J),(5,.v),(6,J)]
def o3 := O 467
def B3 (P : PT) (N2 : Y k1) : Y k1 := fun x0 x1 x5 x6 H =>
  N2 x0 x1 x5 (IntKind.i64.wrap (x6 + 1)) H
theorem q3 P N2 : Q o3 (E k1 N2) k1 (B3 P N2) := fun _ _ _ _ _ _ => by kernel_rfl
abbrev k2 : Sk := [(0,.v),(1,J),(5,.v),(6,J),(7,J)]
def o4 := O 1865
def B4 (P : PT) (N2 : Y k1) : Y k2 := fun x0 x1 x5 x6 x7 H =>
  sliceK H 2 x5 none (some (Value.int .i64 x7)) 1 (fun v1 => sliceK H 2 x5 (some (Value.int .i64 x7)) none 1 (fun v2 => (AC Tryz.prog T0 138 [v1] H (fun v3 H4 => (sliceK H4 2 x5 (some (Value.int .i64 x7)) none 1 (fun v6 => (v6 = v2) ∧ (H4 = H4))) ∧ (newK H4 [(Value.int .i64 x6)] 2 (fun b7 H8 => apK T0 2 H8 v3 (Value.slice (some ⟨b7, 0, none⟩) 1 (1 + 1)) (fun v9 H10 => (sliceK H10 2 x5 (some (Value.int .i64 x7)) none 1 (fun v11 => (v11 = v2) ∧ (H10 = H10))) ∧ (apK T0 2 H10 v9 v2 (fun v12 H13 => B3 P N2 x0 x1 v12 x6 H13))))))) ∧ (newK H [(Value.int .i64 x6)] 2 (fun b14 H15 => AC Tryz.prog T0 138 [v1] H15 (fun v16 H17 => (sliceK H17 2 x5 (some (Value.int .i64 x7)) none 1 (fun v19 => (v19 = v2) ∧ (H17 = H17))) ∧ (apK T0 2 H17 v16 (Value.slice (some ⟨b14, 0, none⟩) 1 (1 + 1)) (fun v20 H21 => (sliceK H21 2 x5 (some (Value.int .i64 x7)) none 1 (fun v22 => (v22 = v2) ∧ (H21 = H21))) ∧ (apK T0 2 H21 v20 v2 (fun v23 H24 => B3 P N2 x0 x1 v23 x6 H24)))))))))
theorem q4 (P : PT) (N2 : Y k1) : QT Tryz.prog T0 30 o4 (.op 0 [] (.op 1 [] (.op 2 [] (.op 4 [] (.op 7 [] (.op 8 [] (.op 9 [] (.alt (.op 3 [9] (.op 5 [] (.op 6 [9] (.op 10 [] (.op 11 [] .done))))) (.op 5 [] (.op 3 [9] (.op 6 [9] (.op 10 [] (.op 11 [] .done))))))))))))) (En 30 k1 (B3 P N2)) k2 (B4 P N2) := fun _ _ _ _ _ _ _  => by kernel_rfl
def o5 := O 1864
def B5 (P : PT) (N2 : Y k1) : Y k1 := fun x0 x1 x5 x6 H =>
  AC Tryz.prog T0 66 [x0, (Value.int .i64 (IntKind.i64.wrap (x6 + 1)))] H (fun v1 H2 => asI .i64 v1 (fun v3 => B4 P N2 x0 x1 x5 x6 v3 H2))
theorem q5 P N2 : Q o5 (E k2 (B4 P N2)) k1 (B5 P N2) := fun _ _ _ _ _ _ => by kernel_rfl
def o6 := O 464
def B6 (P : PT) (N2 : Y k1) : Y k1 := fun x0 x1 x5 x6 H =>
  pif (decide ((x6 : Int) < x1)) (B5 P N2 x0 x1 x5 x6 H) (B1 P x5 H)
theorem q6 P N2 : Q o6 (cnd 11 (E k1 (B5 P N2)) (E k0 (B1 P))) k1 (B6 P N2) := fun _ _ _ _ _ _ => by kernel_rfl
def L2 (P : PT) : Y k1 := fun x0 x1 x5 x6 H =>
  ∃ (I : Y k1) (μ : NTy k1 (AHeap → Nat)), I x0 x1 x5 x6 H ∧ ∀ y0 y1 y5 y6 G, I y0 y1 y5 y6 G → B6 P (fun z0 z1 z5 z6 G' => I z0 z1 z5 z6 G' ∧ μ z0 z1 z5 z6 G' < μ y0 y1 y5 y6 G) y0 y1 y5 y6 G
theorem l2 P : LQ k1 (L2 P) (B6 P) := fun ⟨_,_,_,_,_⟩ _ ⟨I, μ, h0, hI⟩ => ⟨apT _ I, apT _ μ, h0, fun ⟨_,_,_,_,_⟩ _ h => hI _ _ _ _ _  h⟩
abbrev k3 : Sk := [(0,.v),(1,J),(5,.v)]
def o7 := O 28
def B7 (P : PT) : Y k3 := fun x0 x1 x5 H =>
  L2 P x0 x1 x5 0 H
theorem q7 P : Q o7 (E k1 (L2 P)) k3 (B7 P) := fun _ _ _ _ _ => by kernel_rfl
abbrev k4 : Sk := [(0,.v),(1,J)]
def o8 := O 6
def B8 (P : PT) : Y k4 := fun x0 x1 H =>
  newK H [] 2 (fun b1 H2 => B7 P x0 x1 (Value.slice (some ⟨b1, 0, none⟩) 0 (0 + 1)) H2)
theorem q8 P : Q o8 (E k3 (B7 P)) k4 (B8 P) := fun _ _ _ _ => by kernel_rfl
def o9 := O 2
def B9 (P : PT) : Y k4 := fun x0 x1 H =>
  B8 P x0 x1 H
theorem q9 P : Q o9 (E k4 (B8 P)) k4 (B9 P) := fun _ _ _ _ => by kernel_rfl
def code : Code := (.seq (R 0 o9) (.seq (R 1 o8) (.seq (.seq (R 2 o7) (.block 0 (.loop (.seq (.seq (R 3 o6) (.cond (.tmp 11) .skip (.exit 0))) (.seq (.block 1 (.seq (R 5 o5) (.region 6 ⟨o4⟩ true))) (R 4 o3)))))) (.seq (R 7 o1) .ret))))
theorem body : Tryz.f70.body = some code := by kernel_rfl
theorem main (P : PT) : ∀ env H, (En 30 k4 (B9 P)) env H → AW Tryz.prog T0 code env H (M (ret P)) :=
  (r_seq (b (q9 P)) (r_seq (b (q8 P)) (r_seq (r_seq (b (q7 P)) (r_block (rL (l2 P) (fun N2 => (r_seq (r_seq (b (q6 P N2)) (r_cond rfl r_skip (r_exit (fun _ _ h => h)))) (r_seq (r_block (r_seq (b (q5 P N2)) (rT T0_ok mixed (.op 0 [] (.op 1 [] (.op 2 [] (.op 4 [] (.op 7 [] (.op 8 [] (.op 9 [] (.alt (.op 3 [9] (.op 5 [] (.op 6 [9] (.op 10 [] (.op 11 [] .done))))) (.op 5 [] (.op 3 [9] (.op 6 [9] (.op 10 [] (.op 11 [] .done))))))))))))) (by kernel_rfl) (q4 P N2)))) (b (q3 P N2)))))))) (r_seq (b (q1 P)) r_ret))))
theorem ac (P : PT) (x0 : Value) (x1 : Int) (H : AHeap) (h : B9 P x0 x1 H) : AC Tryz.prog T0 70 [x0, (Value.int .i64 x1)] H P :=
  r_fn T0_ok (c := code) (n := 30) Tryz.func70 body (by kernel_rfl) (main P) (En_mk (x0, x1, ()) (by kernel_rfl) ⟨by kernel_rfl, by kernel_rfl, trivial⟩ h)

end F70
namespace F71
abbrev E := En 7
abbrev Q := QB Tryz.prog T0 7
def O (k : Nat) := ob Tryz.f71 (pth k)
def ret (P : PT) : EP := retE T0 7 Tryz.f71 P
abbrev k0 : Sk := [(0,.v),(2,.x)]
def o1 := O 6
def B1 (P : PT) : Y k0 := fun x0 x2 H =>
  AC Tryz.prog T0 96 [x0] H (fun v1 H2 => agg2 v1 (fun v3 v4 => asI .i64 v3 (fun v5 => AC Tryz.prog T0 68 [x0, (Value.agg ⟨[(Value.int .i64 v5), v4]⟩)] H2 (fun v7 H8 => agg2 v7 (fun v9 v10 => asI .i64 v9 (fun v11 => stK H8 x2 0 [(Value.int .i64 v11), v10] (fun H13 => ldI .i64 H13 x2 0 (fun v14 => ld1 H13 x2 1 (fun v15 => P (Value.agg ⟨[(Value.int .i64 v14), v15]⟩) H13)))))))))
theorem q1 P : Q o1 (ret P) k0 (B1 P) := fun _ _ _ _ => by kernel_rfl
abbrev k1 : Sk := [(0,.v)]
def o2 := O 2
def B2 (P : PT) : Y k1 := fun x0 H =>
  newK H [(Value.int .i64 0), (Value.slice none 0 0)] 26 (fun b1 H2 => B1 P x0 b1 H2)
theorem q2 P : Q o2 (E k0 (B1 P)) k1 (B2 P) := fun _ _ _ => by kernel_rfl
def code : Code := (.seq (R 0 o2) (.seq (R 1 o1) .ret))
theorem body : Tryz.f71.body = some code := by kernel_rfl
theorem main (P : PT) : ∀ env H, (En 7 k1 (B2 P)) env H → AW Tryz.prog T0 code env H (M (ret P)) :=
  (r_seq (b (q2 P)) (r_seq (b (q1 P)) r_ret))
theorem ac (P : PT) (x0 : Value) (H : AHeap) (h : B2 P x0 H) : AC Tryz.prog T0 71 [x0] H P :=
  r_fn T0_ok (c := code) (n := 7) Tryz.func71 body (by kernel_rfl) (main P) (En_mk (x0, ()) (by kernel_rfl) ⟨by kernel_rfl, trivial⟩ h)

end F71
namespace F72
abbrev E := En 12
abbrev Q := QB Tryz.prog T0 12
def O (k : Nat) := ob Tryz.f72 (pth k)
def ret (P : PT) : EP := retE T0 12 Tryz.f72 P
abbrev k0 : Sk := []
def o1 := O 14
def B1 (P : PT) : Y k0 := fun H =>
  P (Value.int .i64 0) H
theorem q1 P : Q o1 (ret P) k0 (B1 P) := fun _ _ => by kernel_rfl
def o2 := O 100
def B2 (P : PT) : Y k0 := fun H =>
  P (Value.int .i64 1) H
theorem q2 P : Q o2 (ret P) k0 (B2 P) := fun _ _ => by kernel_rfl
def o3 := O 412
def B3 (P : PT) : Y k0 := fun H =>
  P (Value.int .i64 2) H
theorem q3 P : Q o3 (ret P) k0 (B3 P) := fun _ _ => by kernel_rfl
abbrev k1 : Sk := [(1,.b)]
def o4 := O 102
def B4 (P : PT) : Y k1 := fun x1 H =>
  pif (!x1) (B3 P H) (B1 P H)
theorem q4 P : Q o4 (cnd 9 (E k0 (B3 P)) (E k0 (B1 P))) k1 (B4 P) := fun _ _ _ => by kernel_rfl
abbrev k2 : Sk := [(1,.b),(2,.x)]
def o5 := O 24
def B5 (P : PT) : Y k2 := fun x1 x2 H =>
  ldI .i64 H x2 0 (fun v1 => ld1 H x2 1 (fun v2 => AC Tryz.prog T0 143 [(Value.agg ⟨[(Value.int .i64 v1), v2]⟩)] H (fun v3 H4 => asB v3 (fun v5 => pif (!v5) (B2 P H4) (B4 P x1 H4)))))
theorem q5 P : Q o5 (cnd 5 (E k0 (B2 P)) (E k1 (B4 P))) k2 (B5 P) := fun _ _ _ _ => by kernel_rfl
abbrev k3 : Sk := [(0,.g [.i,.v]),(1,.b)]
def o6 := O 2
def B6 (P : PT) : Y k3 := fun x0a x0b x1 H =>
  newK H [(Value.int .i64 x0a), x0b] 26 (fun b1 H2 => B5 P x1 b1 H2)
theorem q6 P : Q o6 (E k2 (B5 P)) k3 (B6 P) := fun _ _ _ _ _ => by kernel_rfl
def code : Code := (.seq (R 0 o6) (.seq (.block 0 (.seq (R 1 o5) (.cond (.tmp 5) (.seq (R 2 o2) .ret) (.seq (R 3 o4) (.cond (.tmp 9) (.seq (R 4 o3) .ret) .skip))))) (.seq (R 5 o1) .ret)))
theorem body : Tryz.f72.body = some code := by kernel_rfl
theorem main (P : PT) : ∀ env H, (En 12 k3 (B6 P)) env H → AW Tryz.prog T0 code env H (M (ret P)) :=
  (r_seq (b (q6 P)) (r_seq (r_block (r_seq (b (q5 P)) (r_cond rfl (r_seq (b (q2 P)) r_ret) (r_seq (b (q4 P)) (r_cond rfl (r_seq (b (q3 P)) r_ret) r_skip))))) (r_seq (b (q1 P)) r_ret)))
theorem ac (P : PT) (x0a : Int) (x0b : Value) (x1 : Bool) (H : AHeap) (h : B6 P x0a x0b x1 H) : AC Tryz.prog T0 72 [(Value.agg ⟨[(Value.int .i64 x0a), x0b]⟩), (Value.bool x1)] H P :=
  r_fn T0_ok (c := code) (n := 12) Tryz.func72 body (by kernel_rfl) (main P) (En_mk (x0a, x0b, x1, ()) (by kernel_rfl) ⟨by kernel_rfl, by kernel_rfl, trivial⟩ h)

end F72
namespace F73
abbrev E := En 5
abbrev Q := QB Tryz.prog T0 5
def O (k : Nat) := ob Tryz.f73 (pth k)
def ret (P : PT) : EP := retE T0 5 Tryz.f73 P
abbrev k0 : Sk := [(0,.v)]
def o1 := O 6
def B1 (P : PT) : Y k0 := fun x0 H =>
  lenK x0 (fun n1 => P (Value.int .i64 (n1 : Int)) H)
theorem q1 P : Q o1 (ret P) k0 (B1 P) := fun _ _ _ => by kernel_rfl
def o2 := O 2
def B2 (P : PT) : Y k0 := fun x0 H =>
  B1 P x0 H
theorem q2 P : Q o2 (E k0 (B1 P)) k0 (B2 P) := fun _ _ _ => by kernel_rfl
def code : Code := (.seq (R 0 o2) (.seq (R 1 o1) .ret))
theorem body : Tryz.f73.body = some code := by kernel_rfl
theorem main (P : PT) : ∀ env H, (En 5 k0 (B2 P)) env H → AW Tryz.prog T0 code env H (M (ret P)) :=
  (r_seq (b (q2 P)) (r_seq (b (q1 P)) r_ret))
theorem ac (P : PT) (x0 : Value) (H : AHeap) (h : B2 P x0 H) : AC Tryz.prog T0 73 [x0] H P :=
  r_fn T0_ok (c := code) (n := 5) Tryz.func73 body (by kernel_rfl) (main P) (En_mk (x0, ()) (by kernel_rfl) ⟨by kernel_rfl, trivial⟩ h)

end F73
namespace F75
abbrev E := En 56
abbrev Q := QB Tryz.prog T0 56
def O (k : Nat) := ob Tryz.f75 (pth k)
def ret (P : PT) : EP := retE T0 56 Tryz.f75 P
abbrev k0 : Sk := []
def o1 := O 30
def B1 (P : PT) : Y k0 := fun H =>
  P (Value.bool true) H
theorem q1 P : Q o1 (ret P) k0 (B1 P) := fun _ _ => by kernel_rfl
abbrev k1 : Sk := [(1,.x),(3,J)]
def o3 := O 467
def B3 (P : PT) (N2 : Y k1) : Y k1 := fun x1 x3 H =>
  N2 x1 (IntKind.i64.wrap (x3 + 1)) H
theorem q3 P N2 : Q o3 (E k1 N2) k1 (B3 P N2) := fun _ _ _ _ => by kernel_rfl
def o4 := O 7460
def B4 (P : PT) (N2 : Y k1) : Y k0 := fun H =>
  P (Value.bool false) H
theorem q4 P N2 : Q o4 (ret P) k0 (B4 P N2) := fun _ _ => by kernel_rfl
def o5 := O 1864
def B5 (P : PT) (N2 : Y k1) : Y k1 := fun x1 x3 H =>
  ld1 H x1 1 (fun v1 => idxK v1 x3 2 (fun b2 o3 => ldI .i64 H b2 o3 (fun v4 => ld1 H x1 1 (fun v5 => idxK v5 x3 2 (fun b6 o7 => ldI .i64 H b6 (o7 + 1) (fun v8 => pif (decide ((v4 : Int) > v8)) (B4 P N2 H) (pif (decide ((x3 : Int) > 0)) (ld1 H x1 1 (fun v9 => idxK v9 x3 2 (fun b10 o11 => ldI .i64 H b10 o11 (fun v12 => ldI .i64 H b10 (o11 + 1) (fun v13 => ld1 H x1 1 (fun v14 => idxK v14 (IntKind.i64.wrap (x3 - 1)) 2 (fun b15 o16 => ldI .i64 H b15 o16 (fun v17 => ldI .i64 H b15 (o16 + 1) (fun v18 => AC Tryz.prog T0 146 [(Value.agg ⟨[(Value.int .i64 v12), (Value.int .i64 v13)]⟩), (Value.agg ⟨[(Value.int .i64 v17), (Value.int .i64 v18)]⟩)] H (fun v19 H20 => asB v19 (fun v21 => pif v21 (B4 P N2 H20) (B3 P N2 x1 x3 H20)))))))))))) (B3 P N2 x1 x3 H))))))))
theorem q5 (P : PT) (N2 : Y k1) : QD Tryz.prog T0 56 o5 [(0, false), (1, false), (2, false), (3, false), (4, false), (5, false), (6, false), (7, false), (8, false), (9, false), (10, false), (11, false), (12, false), (13, false), (14, false), (15, false), (16, false), (17, false), (18, false), (19, false), (20, false), (21, false), (22, false), (23, false), (24, false), (25, false), (26, false), (27, false), (28, false), (29, false), (30, false)] (cnd 55 (En 56 k0 (B4 P N2)) (En 56 k1 (B3 P N2))) k1 (B5 P N2) := fun _ _ _ _  => by kernel_rfl
def o6 := O 464
def B6 (P : PT) (N2 : Y k1) : Y k1 := fun x1 x3 H =>
  ld1 H x1 1 (fun v1 => lenK v1 (fun n2 => pif (decide ((x3 : Int) < (n2 : Int))) (B5 P N2 x1 x3 H) (B1 P H)))
theorem q6 P N2 : Q o6 (cnd 22 (E k1 (B5 P N2)) (E k0 (B1 P))) k1 (B6 P N2) := fun _ _ _ _ => by kernel_rfl
def L2 (P : PT) : Y k1 := fun x1 x3 H =>
  ∃ (I : Y k1) (μ : NTy k1 (AHeap → Nat)), I x1 x3 H ∧ ∀ y1 y3 G, I y1 y3 G → B6 P (fun z1 z3 G' => I z1 z3 G' ∧ μ z1 z3 G' < μ y1 y3 G) y1 y3 G
theorem l2 P : LQ k1 (L2 P) (B6 P) := fun ⟨_,_,_⟩ _ ⟨I, μ, h0, hI⟩ => ⟨apT _ I, apT _ μ, h0, fun ⟨_,_,_⟩ _ h => hI _ _ _  h⟩
abbrev k2 : Sk := [(1,.x)]
def o7 := O 28
def B7 (P : PT) : Y k2 := fun x1 H =>
  L2 P x1 0 H
theorem q7 P : Q o7 (E k1 (L2 P)) k2 (B7 P) := fun _ _ _ => by kernel_rfl
def o8 := O 52
def B8 (P : PT) : Y k0 := fun H =>
  P (Value.bool false) H
theorem q8 P : Q o8 (ret P) k0 (B8 P) := fun _ _ => by kernel_rfl
def o9 := O 12
def B9 (P : PT) : Y k2 := fun x1 H =>
  ldI .i64 H x1 0 (fun v1 => ld1 H x1 1 (fun v2 => AC Tryz.prog T0 144 [(Value.int .i64 v1), v2] H (fun v3 H4 => asI .i64 v3 (fun v5 => pif ((v5 : Int) != 0) (B8 P H4) (ldI .i64 H4 x1 0 (fun v6 => ld1 H4 x1 1 (fun v7 => AC Tryz.prog T0 145 [(Value.int .i64 v6), v7] H4 (fun v8 H9 => asB v8 (fun v10 => pif (!v10) (B8 P H9) (B7 P x1 H9))))))))))
theorem q9 P : Q o9 (cnd 17 (E k0 (B8 P)) (E k2 (B7 P))) k2 (B9 P) := fun _ _ _ => by kernel_rfl
abbrev k3 : Sk := [(0,.g [.i,.v])]
def o10 := O 2
def B10 (P : PT) : Y k3 := fun x0a x0b H =>
  newK H [(Value.int .i64 x0a), x0b] 26 (fun b1 H2 => B9 P b1 H2)
theorem q10 P : Q o10 (E k2 (B9 P)) k3 (B10 P) := fun _ _ _ _ => by kernel_rfl
def code : Code := (.seq (R 0 o10) (.seq (.seq (R 1 o9) (.cond (.tmp 17) (.seq (R 2 o8) .ret) .skip)) (.seq (.seq (R 3 o7) (.block 0 (.loop (.seq (.seq (R 4 o6) (.cond (.tmp 22) .skip (.exit 0))) (.seq (.block 1 (.seq (.region 6 ⟨o5⟩ true) (.cond (.tmp 55) (.seq (R 7 o4) .ret) .skip))) (R 5 o3)))))) (.seq (R 8 o1) .ret))))
theorem body : Tryz.f75.body = some code := by kernel_rfl
theorem main (P : PT) : ∀ env H, (En 56 k3 (B10 P)) env H → AW Tryz.prog T0 code env H (M (ret P)) :=
  (r_seq (b (q10 P)) (r_seq (r_seq (b (q9 P)) (r_cond rfl (r_seq (b (q8 P)) r_ret) r_skip)) (r_seq (r_seq (b (q7 P)) (r_block (rL (l2 P) (fun N2 => (r_seq (r_seq (b (q6 P N2)) (r_cond rfl r_skip (r_exit (fun _ _ h => h)))) (r_seq (r_block (r_seq (rD T0_ok mixed [(0, false), (1, false), (2, false), (3, false), (4, false), (5, false), (6, false), (7, false), (8, false), (9, false), (10, false), (11, false), (12, false), (13, false), (14, false), (15, false), (16, false), (17, false), (18, false), (19, false), (20, false), (21, false), (22, false), (23, false), (24, false), (25, false), (26, false), (27, false), (28, false), (29, false), (30, false)] (by kernel_rfl) (q5 P N2)) (r_cond rfl (r_seq (b (q4 P N2)) r_ret) r_skip))) (b (q3 P N2)))))))) (r_seq (b (q1 P)) r_ret))))
theorem ac (P : PT) (x0a : Int) (x0b : Value) (H : AHeap) (h : B10 P x0a x0b H) : AC Tryz.prog T0 75 [(Value.agg ⟨[(Value.int .i64 x0a), x0b]⟩)] H P :=
  r_fn T0_ok (c := code) (n := 56) Tryz.func75 body (by kernel_rfl) (main P) (En_mk (x0a, x0b, ()) (by kernel_rfl) ⟨by kernel_rfl, trivial⟩ h)

end F75
end
end Go.Proofs
