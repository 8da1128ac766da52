import Derived.Test.YtngacbdogjmpaaaGreatDoorX33S
set_option linter.unusedVariables false
set_option maxRecDepth 100000
namespace Go.Proofs
open Go.Abs
noncomputable section
namespace F5
abbrev E := En 295
abbrev Q := QB Tryz.prog T0 295
def O (k : Nat) := ob Tryz.f5 (pth k)
def ret (P : PT) : EP := retE T0 295 Tryz.f5 P
abbrev k0 : Sk := []
def o1 := O 268435454
def B1 (P : PT) : Y k0 := fun H =>
  P (Value.bool true) H
theorem q1 P : Q o1 (ret P) k0 (B1 P) := fun _ _ => by kernel_rfl
abbrev k1 : Sk := [(3,.x),(4,.v),(46,J)]
def o3 := O 4294967251
def B3 (P : PT) (N2 : Y k1) : Y k1 := fun x3 x4 x46 H =>
  N2 x3 x4 (IntKind.i64.wrap (x46 + 1)) H
theorem q3 P N2 : Q o3 (E k1 N2) k1 (B3 P N2) := fun _ _ _ _ _ => by kernel_rfl
def o4 := O 137438952012
def B4 (P : PT) (N2 : Y k1) : Y k0 := fun H =>
  P (Value.bool false) H
theorem q4 P N2 : Q o4 (ret P) k0 (B4 P N2) := fun _ _ => by kernel_rfl
abbrev k2 : Sk := [(3,.x),(4,.v),(46,J),(47,.b),(48,J)]
def o5 := O 34359738002
def B5 (P : PT) (N2 : Y k1) : Y k2 := fun x3 x4 x46 x47 x48 H =>
  pif ((x48 : Int) != 0) (B4 P N2 H) (pif (!x47) (B4 P N2 H) (B3 P N2 x3 x4 x46 H))
theorem q5 P N2 : Q o5 (cnd 294 (E k0 (B4 P N2)) (E k1 (B3 P N2))) k2 (B5 P N2) := fun _ _ _ _ _ _ _ => by kernel_rfl
def o6 := O 17179869000
def B6 (P : PT) (N2 : Y k1) : Y k1 := fun x3 x4 x46 H =>
  ldI .i64 H x3 0 (fun v1 => ld1 H x3 1 (fun v2 => idxK x4 x46 1 (fun b3 o4 => ld1 H b3 o4 (fun v5 => AC Tryz.prog T0 47 [(Value.agg ⟨[(Value.int .i64 v1), v2]⟩), v5] H (fun v6 H7 => tup2 v6 (fun v8 v9 => asB v8 (fun v10 => asI .i64 v9 (fun v11 => B5 P N2 x3 x4 x46 v10 v11 H7))))))))
theorem q6 (P : PT) (N2 : Y k1) : QD Tryz.prog T0 295 o6 [(0, false), (1, false), (2, false), (3, false), (4, false), (5, false), (6, false), (7, false), (8, false), (9, false), (10, false)] (En 295 k2 (B5 P N2)) k1 (B6 P N2) := fun _ _ _ _ _  => by kernel_rfl
def o7 := O 4294967248
def B7 (P : PT) (N2 : Y k1) : Y k1 := fun x3 x4 x46 H =>
  lenK x4 (fun n1 => pif (decide ((x46 : Int) < (n1 : Int))) (pif (decide ((x46 : Int) < 3)) (B6 P N2 x3 x4 x46 H) (B1 P H)) (B1 P H))
theorem q7 P N2 : Q o7 (cnd 277 (E k1 (B6 P N2)) (E k0 (B1 P))) k1 (B7 P N2) := fun _ _ _ _ _ => by kernel_rfl
def L2 (P : PT) : Y k1 := fun x3 x4 x46 H =>
  ∃ (I : Y k1) (μ : NTy k1 (AHeap → Nat)), I x3 x4 x46 H ∧ ∀ y3 y4 y46 G, I y3 y4 y46 G → B7 P (fun z3 z4 z46 G' => I z3 z4 z46 G' ∧ μ z3 z4 z46 G' < μ y3 y4 y46 G) y3 y4 y46 G
theorem l2 P : LQ k1 (L2 P) (B7 P) := fun ⟨_,_,_,_⟩ _ ⟨I, μ, h0, hI⟩ => ⟨apT _ I, apT _ μ, h0, fun ⟨_,_,_,_⟩ _ h => hI _ _ _ _  h⟩
abbrev k3 : Sk := [(3,.x),(4,.v)]
def o8 := O 268435452
def B8 (P : PT) : Y k3 := fun x3 x4 H =>
  L2 P x3 x4 0 H
theorem q8 P : Q o8 (E k1 (L2 P)) k3 (B8 P) := fun _ _ _ _ => by kernel_rfl
def o9 := O 536870900
def B9 (P : PT) : Y k0 := fun H =>
  P (Value.bool false) H
theorem q9 P : Q o9 (ret P) k0 (B9 P) := fun _ _ => by kernel_rfl
abbrev k4 : Sk := [(3,.x),(4,.v),(44,J),(45,J)]
def o10 := O 134217724
def B10 (P : PT) : Y k4 := fun x3 x4 x44 x45 H =>
  pif ((x45 : Int) != 0) (B9 P H) (lenK x4 (fun n1 => pif ((x44 : Int) != (n1 : Int)) (B9 P H) (B8 P x3 x4 H)))
theorem q10 P : Q o10 (cnd 269 (E k0 (B9 P)) (E k3 (B8 P))) k4 (B10 P) := fun _ _ _ _ _ _ => by kernel_rfl
def o11 := O 33554430
def B11 (P : PT) : Y k3 := fun x3 x4 H =>
  ldI .i64 H x3 0 (fun v1 => ld1 H x3 1 (fun v2 => AC Tryz.prog T0 18 [(Value.agg ⟨[(Value.int .i64 v1), v2]⟩)] H (fun v3 H4 => tup2 v3 (fun v5 v6 => asI .i64 v5 (fun v7 => asI .i64 v6 (fun v8 => B10 P x3 x4 v7 v8 H4))))))
theorem q11 P : Q o11 (E k4 (B10 P)) k3 (B11 P) := fun _ _ _ _ => by kernel_rfl
abbrev k5 : Sk := [(4,.v)]
def o12 := O 134217716
def B12 (P : PT) : Y k5 := fun x4 H =>
  lenK x4 (fun n1 => P (Value.bool (((n1 : Int) : Int) == 0)) H)
theorem q12 P : Q o12 (ret P) k5 (B12 P) := fun _ _ _ => by kernel_rfl
abbrev k6 : Sk := [(3,.x),(4,.v),(5,J)]
def o13 := O 33554428
def B13 (P : PT) : Y k6 := fun x3 x4 x5 H =>
  pif ((x5 : Int) != 0) (B12 P x4 H) (B11 P x3 x4 H)
theorem q13 P : Q o13 (cnd 253 (E k5 (B12 P)) (E k3 (B11 P))) k6 (B13 P) := fun _ _ _ _ _ => by kernel_rfl
def o14 := O 4294966652
def B14 (P : PT) : Y k0 := fun H =>
  P (Value.bool false) H
theorem q14 P : Q o14 (ret P) k0 (B14 P) := fun _ _ => by kernel_rfl
abbrev k7 : Sk := [(3,.x),(4,.v),(5,J),(15,J),(37,J),(38,J),(39,J),(40,J)]
def o15 := O 1073741662
def B15 (P : PT) : Y k7 := fun x3 x4 x5 x15 x37 x38 x39 x40 H =>
  pif ((x37 : Int) != 0) (B14 P H) (pif ((x39 : Int) != 0) (B14 P H) (pif ((x40 : Int) != x38) (B14 P H) (pif (decide ((x15 : Int) > x38)) (B14 P H) (B13 P x3 x4 x5 H))))
theorem q15 P : Q o15 (cnd 251 (E k0 (B14 P)) (E k6 (B13 P))) k7 (B15 P) := fun _ _ _ _ _ _ _ _ _ _ => by kernel_rfl
abbrev k8 : Sk := [(3,.x),(4,.v),(5,J),(13,.x),(15,J),(36,.v),(37,J),(38,J),(39,J),(40,J),(41,J)]
def o17 := O 17179866579
def B17 (P : PT) (N16 : Y k8) : Y k8 := fun x3 x4 x5 x13 x15 x36 x37 x38 x39 x40 x41 H =>
  N16 x3 x4 x5 x13 x15 x36 x37 x38 x39 x40 (IntKind.i64.wrap (x41 + 1)) H
theorem q17 P N16 : Q o17 (E k8 N16) k8 (B17 P N16) := fun _ _ _ _ _ _ _ _ _ _ _ _ _ => by kernel_rfl
abbrev k9 : Sk := [(3,.x),(4,.v),(5,J),(13,.x),(15,J),(36,.v),(37,J),(38,J),(39,J),(40,J),(41,J),(42,J)]
def o18 := O 137438932627
def B18 (P : PT) (N16 : Y k8) : Y k9 := fun x3 x4 x5 x13 x15 x36 x37 x38 x39 x40 x41 x42 H =>
  B17 P N16 x3 x4 x5 x13 x15 x36 x37 x38 x39 (IntKind.i64.wrap (x40 + x42)) x41 H
theorem q18 P N16 : Q o18 (E k8 (B17 P N16)) k9 (B18 P N16) := fun _ _ _ _ _ _ _ _ _ _ _ _ _ _ => by kernel_rfl
def o19 := O 1099511461012
def B19 (P : PT) (N16 : Y k8) : Y k0 := fun H =>
  P (Value.bool false) H
theorem q19 P N16 : Q o19 (ret P) k0 (B19 P N16) := fun _ _ => by kernel_rfl
abbrev k10 : Sk := [(3,.x),(4,.v),(5,J),(13,.x),(15,J),(36,.v),(37,J),(38,J),(39,J),(40,J),(41,J),(42,J),(43,J)]
def o20 := O 274877865252
def B20 (P : PT) (N16 : Y k8) : Y k10 := fun x3 x4 x5 x13 x15 x36 x37 x38 x39 x40 x41 x42 x43 H =>
  pif ((x43 : Int) != 0) (B19 P N16 H) (B18 P N16 x3 x4 x5 x13 x15 x36 x37 x38 x39 x40 x41 x42 H)
theorem q20 P N16 : Q o20 (cnd 232 (E k0 (B19 P N16)) (E k9 (B18 P N16))) k10 (B20 P N16) := fun _ _ _ _ _ _ _ _ _ _ _ _ _ _ _ => by kernel_rfl
def o21 := O 68719466312
def B21 (P : PT) (N16 : Y k8) : Y k8 := fun x3 x4 x5 x13 x15 x36 x37 x38 x39 x40 x41 H =>
  ldI .i64 H x13 0 (fun v1 => ld1 H x13 1 (fun v2 => idxK x36 x41 1 (fun b3 o4 => ldI .i64 H b3 o4 (fun v5 => AC Tryz.prog T0 41 [(Value.agg ⟨[(Value.int .i64 v1), v2]⟩), (Value.int .i64 v5)] H (fun v6 H7 => tup2 v6 (fun v8 v9 => asI .i64 v8 (fun v10 => asI .i64 v9 (fun v11 => B20 P N16 x3 x4 x5 x13 x15 x36 x37 x38 x39 x40 x41 v10 v11 H7))))))))
theorem q21 (P : PT) (N16 : Y k8) : QD Tryz.prog T0 295 o21 [(0, false), (1, false), (2, false), (3, false), (4, false), (5, false), (6, false), (7, false), (8, false), (9, false), (10, false)] (En 295 k10 (B20 P N16)) k8 (B21 P N16) := fun _ _ _ _ _ _ _ _ _ _ _ _ _  => by kernel_rfl
def o22 := O 17179866576
def B22 (P : PT) (N16 : Y k8) : Y k8 := fun x3 x4 x5 x13 x15 x36 x37 x38 x39 x40 x41 H =>
  lenK x36 (fun n1 => pif (decide ((x41 : Int) < (n1 : Int))) (B21 P N16 x3 x4 x5 x13 x15 x36 x37 x38 x39 x40 x41 H) (B15 P x3 x4 x5 x15 x37 x38 x39 x40 H))
theorem q22 P N16 : Q o22 (cnd 219 (E k8 (B21 P N16)) (E k7 (B15 P))) k8 (B22 P N16) := fun _ _ _ _ _ _ _ _ _ _ _ _ _ => by kernel_rfl
def L16 (P : PT) : Y k8 := fun x3 x4 x5 x13 x15 x36 x37 x38 x39 x40 x41 H =>
  ∃ (I : Y k8) (μ : NTy k8 (AHeap → Nat)), I x3 x4 x5 x13 x15 x36 x37 x38 x39 x40 x41 H ∧ ∀ y3 y4 y5 y13 y15 y36 y37 y38 y39 y40 y41 G, I y3 y4 y5 y13 y15 y36 y37 y38 y39 y40 y41 G → B22 P (fun z3 z4 z5 z13 z15 z36 z37 z38 z39 z40 z41 G' => I z3 z4 z5 z13 z15 z36 z37 z38 z39 z40 z41 G' ∧ μ z3 z4 z5 z13 z15 z36 z37 z38 z39 z40 z41 G' < μ y3 y4 y5 y13 y15 y36 y37 y38 y39 y40 y41 G) y3 y4 y5 y13 y15 y36 y37 y38 y39 y40 y41 G
theorem l16 P : LQ k8 (L16 P) (B22 P) := fun ⟨_,_,_,_,_,_,_,_,_,_,_,_⟩ _ ⟨I, μ, h0, hI⟩ => ⟨apT _ I, apT _ μ, h0, fun ⟨_,_,_,_,_,_,_,_,_,_,_,_⟩ _ h => hI _ _ _ _ _ _ _ _ _ _ _ _  h⟩
abbrev k11 : Sk := [(3,.x),(4,.v),(5,J),(13,.x),(15,J),(36,.v),(37,J),(38,J),(39,J),(40,J)]
def o23 := O 1073741660
def B23 (P : PT) : Y k11 := fun x3 x4 x5 x13 x15 x36 x37 x38 x39 x40 H =>
  L16 P x3 x4 x5 x13 x15 x36 x37 x38 x39 x40 0 H
theorem q23 P : Q o23 (E k8 (L16 P)) k11 (B23 P) := fun _ _ _ _ _ _ _ _ _ _ _ _ => by kernel_rfl
abbrev k12 : Sk := [(3,.x),(4,.v),(5,J),(13,.x),(15,J),(36,.v),(37,J),(38,J),(39,J)]
def o24 := O 268435414
def B24 (P : PT) : Y k12 := fun x3 x4 x5 x13 x15 x36 x37 x38 x39 H =>
  B23 P x3 x4 x5 x13 x15 x36 x37 x38 x39 0 H
theorem q24 P : Q o24 (E k11 (B23 P)) k12 (B24 P) := fun _ _ _ _ _ _ _ _ _ _ _ => by kernel_rfl
abbrev k13 : Sk := [(3,.x),(4,.v),(5,J),(13,.x),(15,J),(36,.v),(37,J)]
def o25 := O 134217706
def B25 (P : PT) : Y k13 := fun x3 x4 x5 x13 x15 x36 x37 H =>
  ldI .i64 H x13 0 (fun v1 => ld1 H x13 1 (fun v2 => AC Tryz.prog T0 18 [(Value.agg ⟨[(Value.int .i64 v1), v2]⟩)] H (fun v3 H4 => tup2 v3 (fun v5 v6 => asI .i64 v5 (fun v7 => asI .i64 v6 (fun v8 => B24 P x3 x4 x5 x13 x15 x36 x37 v7 v8 H4))))))
theorem q25 P : Q o25 (E k12 (B24 P)) k13 (B25 P) := fun _ _ _ _ _ _ _ _ _ => by kernel_rfl
abbrev k14 : Sk := [(3,.x),(4,.v),(5,J),(13,.x),(14,J),(15,J)]
def o26 := O 67108852
def B26 (P : PT) : Y k14 := fun x3 x4 x5 x13 x14 x15 H =>
  ldI .i64 H x13 0 (fun v1 => ld1 H x13 1 (fun v2 => ld1 H x13 1 (fun v3 => idxK v3 x14 2 (fun b4 o5 => ldI .i64 H b4 o5 (fun v6 => AC Tryz.prog T0 53 [(Value.agg ⟨[(Value.int .i64 v1), v2]⟩), (Value.int .i64 v6)] H (fun v7 H8 => tup2 v7 (fun v9 v10 => asI .i64 v10 (fun v12 => B25 P x3 x4 x5 x13 x15 v9 v12 H8))))))))
theorem q26 (P : PT) : QD Tryz.prog T0 295 o26 [(0, false), (1, false), (2, false), (3, false), (4, false), (5, false), (6, false), (7, false), (8, false), (9, false), (10, false), (11, false), (12, false)] (En 295 k13 (B25 P)) k14 (B26 P) := fun _ _ _ _ _ _ _ _  => by kernel_rfl
abbrev k15 : Sk := [(3,.x),(4,.v),(5,J),(13,.x),(14,J),(15,J),(16,J)]
def o27 := O 16777212
def B27 (P : PT) : Y k15 := fun x3 x4 x5 x13 x14 x15 x16 H =>
  pif ((x16 : Int) == 0) (B26 P x3 x4 x5 x13 x14 x15 H) (B13 P x3 x4 x5 H)
theorem q27 P : Q o27 (cnd 199 (E k14 (B26 P)) (E k6 (B13 P))) k15 (B27 P) := fun _ _ _ _ _ _ _ _ _ => by kernel_rfl
def o28 := O 33554420
def B28 (P : PT) : Y k0 := fun H =>
  P (Value.bool false) H
theorem q28 P : Q o28 (ret P) k0 (B28 P) := fun _ _ => by kernel_rfl
abbrev k16 : Sk := [(3,.x),(4,.v),(5,J),(13,.x),(14,J),(15,J),(16,J),(19,.x),(21,.v),(22,J)]
def o29 := O 8388604
def B29 (P : PT) : Y k16 := fun x3 x4 x5 x13 x14 x15 x16 x19 x21 x22 H =>
  pif ((x22 : Int) == 0) (ldI .i64 H x19 0 (fun v1 => AC Tryz.prog T0 52 [x21] H (fun v2 H3 => asI .i64 v2 (fun v4 => (AHeap.le H H3) ∧ (pif ((v4 : Int) != v1) (B28 P H3) (B27 P x3 x4 x5 x13 x14 x15 x16 H3)))))) (B27 P x3 x4 x5 x13 x14 x15 x16 H)
theorem q29 (P : PT) : QD Tryz.prog T0 295 o29 [(0, false), (1, false), (2, false), (3, false), (5, false), (6, false), (4, true), (7, false), (8, false)] (cnd 197 (En 295 k0 (B28 P)) (En 295 k15 (B27 P))) k16 (B29 P) := fun _ _ _ _ _ _ _ _ _ _ _ _  => by kernel_rfl
def o30 := O 33554412
def B30 (P : PT) : Y k0 := fun H =>
  P (Value.bool false) H
theorem q30 P : Q o30 (ret P) k0 (B30 P) := fun _ _ => by kernel_rfl
abbrev k17 : Sk := [(3,.x),(4,.v),(5,J),(13,.x),(14,J),(15,J),(16,J),(19,.x),(21,.v),(22,J),(32,.v),(33,J),(34,.v),(35,J)]
def o31 := O 8388602
def B31 (P : PT) : Y k17 := fun x3 x4 x5 x13 x14 x15 x16 x19 x21 x22 x32 x33 x34 x35 H =>
  pif ((x33 : Int) != x35) (B30 P H) (AC Tryz.prog T0 24 [x32, x34] H (fun v1 H2 => asB v1 (fun v3 => pif (!v3) (B30 P H2) (B29 P x3 x4 x5 x13 x14 x15 x16 x19 x21 x22 H2))))
theorem q31 P : Q o31 (cnd 188 (E k0 (B30 P)) (E k16 (B29 P))) k17 (B31 P) := fun _ _ _ _ _ _ _ _ _ _ _ _ _ _ _ _ => by kernel_rfl
abbrev k18 : Sk := [(3,.x),(4,.v),(5,J),(13,.x),(14,J),(15,J),(16,J),(19,.x),(21,.v),(22,J),(31,.x),(32,.v),(33,J)]
def o32 := O 4194300
def B32 (P : PT) : Y k18 := fun x3 x4 x5 x13 x14 x15 x16 x19 x21 x22 x31 x32 x33 H =>
  ldI .i64 H x31 0 (fun v1 => ld1 H x31 1 (fun v2 => AC Tryz.prog T0 51 [(Value.agg ⟨[(Value.int .i64 v1), v2]⟩)] H (fun v3 H4 => tup2 v3 (fun v5 v6 => asI .i64 v6 (fun v8 => B31 P x3 x4 x5 x13 x14 x15 x16 x19 x21 x22 x32 x33 v5 v8 H4)))))
theorem q32 P : Q o32 (E k17 (B31 P)) k18 (B32 P) := fun _ _ _ _ _ _ _ _ _ _ _ _ _ _ _ => by kernel_rfl
abbrev k19 : Sk := [(3,.x),(4,.v),(5,J),(13,.x),(14,J),(15,J),(16,J),(19,.x),(21,.v),(22,J),(31,.x)]
def o33 := O 1048574
def B33 (P : PT) : Y k19 := fun x3 x4 x5 x13 x14 x15 x16 x19 x21 x22 x31 H =>
  ldI .i64 H x31 0 (fun v1 => ld1 H x31 1 (fun v2 => AC Tryz.prog T0 50 [(Value.agg ⟨[(Value.int .i64 v1), v2]⟩)] H (fun v3 H4 => tup2 v3 (fun v5 v6 => asI .i64 v6 (fun v8 => B32 P x3 x4 x5 x13 x14 x15 x16 x19 x21 x22 x31 v5 v8 H4)))))
theorem q33 P : Q o33 (E k18 (B32 P)) k19 (B33 P) := fun _ _ _ _ _ _ _ _ _ _ _ _ _ => by kernel_rfl
abbrev k20 : Sk := [(0,.v),(3,.x),(4,.v),(5,J),(13,.x),(14,J),(15,J),(16,J),(19,.x),(21,.v),(22,J)]
def o34 := O 524286
def B34 (P : PT) : Y k20 := fun x0 x3 x4 x5 x13 x14 x15 x16 x19 x21 x22 H =>
  AC Tryz.prog T0 49 [x0] H (fun v1 H2 => agg2 v1 (fun v3 v4 => asI .i64 v3 (fun v5 => newK H2 [(Value.int .i64 0), (Value.slice none 0 0)] 31 (fun b7 H8 => stK H8 b7 0 [(Value.int .i64 v5), v4] (fun H9 => B33 P x3 x4 x5 x13 x14 x15 x16 x19 x21 x22 b7 H9)))))
theorem q34 P : Q o34 (E k19 (B33 P)) k20 (B34 P) := fun _ _ _ _ _ _ _ _ _ _ _ _ _ => by kernel_rfl
def o35 := O 4194284
def B35 (P : PT) : Y k0 := fun H =>
  P (Value.bool false) H
theorem q35 P : Q o35 (ret P) k0 (B35 P) := fun _ _ => by kernel_rfl
abbrev k21 : Sk := [(0,.v),(3,.x),(4,.v),(5,J),(13,.x),(14,J),(15,J),(16,J),(19,.x),(21,.v),(22,J),(27,.b),(28,J),(29,.b),(30,J)]
def o36 := O 1048570
def B36 (P : PT) : Y k21 := fun x0 x3 x4 x5 x13 x14 x15 x16 x19 x21 x22 x27 x28 x29 x30 H =>
  pif ((x28 : Int) != x30) (B35 P H) (pif (!(x27 == x29)) (B35 P H) (B34 P x0 x3 x4 x5 x13 x14 x15 x16 x19 x21 x22 H))
theorem q36 P : Q o36 (cnd 167 (E k0 (B35 P)) (E k20 (B34 P))) k21 (B36 P) := fun _ _ _ _ _ _ _ _ _ _ _ _ _ _ _ _ _ => by kernel_rfl
abbrev k22 : Sk := [(0,.v),(3,.x),(4,.v),(5,J),(13,.x),(14,J),(15,J),(16,J),(19,.x),(21,.v),(22,J),(25,.x),(26,.v),(27,.b),(28,J)]
def o37 := O 524284
def B37 (P : PT) : Y k22 := fun x0 x3 x4 x5 x13 x14 x15 x16 x19 x21 x22 x25 x26 x27 x28 H =>
  ldI .i64 H x25 0 (fun v1 => ld1 H x25 1 (fun v2 => AC Tryz.prog T0 48 [(Value.agg ⟨[(Value.int .i64 v1), v2]⟩), x26] H (fun v3 H4 => tup2 v3 (fun v5 v6 => asB v5 (fun v7 => asI .i64 v6 (fun v8 => B36 P x0 x3 x4 x5 x13 x14 x15 x16 x19 x21 x22 x27 x28 v7 v8 H4))))))
theorem q37 P : Q o37 (E k21 (B36 P)) k22 (B37 P) := fun _ _ _ _ _ _ _ _ _ _ _ _ _ _ _ _ _ => by kernel_rfl
abbrev k23 : Sk := [(0,.v),(3,.x),(4,.v),(5,J),(13,.x),(14,J),(15,J),(16,J),(19,.x),(21,.v),(22,J),(25,.x),(26,.v)]
def o38 := O 131070
def B38 (P : PT) : Y k23 := fun x0 x3 x4 x5 x13 x14 x15 x16 x19 x21 x22 x25 x26 H =>
  ldI .i64 H x25 0 (fun v1 => ld1 H x25 1 (fun v2 => AC Tryz.prog T0 47 [(Value.agg ⟨[(Value.int .i64 v1), v2]⟩), x26] H (fun v3 H4 => tup2 v3 (fun v5 v6 => asB v5 (fun v7 => asI .i64 v6 (fun v8 => B37 P x0 x3 x4 x5 x13 x14 x15 x16 x19 x21 x22 x25 x26 v7 v8 H4))))))
theorem q38 P : Q o38 (E k22 (B37 P)) k23 (B38 P) := fun _ _ _ _ _ _ _ _ _ _ _ _ _ _ _ => by kernel_rfl
def o39 := O 65534
def B39 (P : PT) : Y k20 := fun x0 x3 x4 x5 x13 x14 x15 x16 x19 x21 x22 H =>
  AC Tryz.prog T0 46 [x0] H (fun v1 H2 => tup2 v1 (fun v3 v4 => agg2 v3 (fun v5 v6 => asI .i64 v5 (fun v7 => newK H2 [(Value.int .i64 0), (Value.slice none 0 0)] 31 (fun b10 H11 => stK H11 b10 0 [(Value.int .i64 v7), v6] (fun H12 => B38 P x0 x3 x4 x5 x13 x14 x15 x16 x19 x21 x22 b10 v4 H12))))))
theorem q39 P : Q o39 (E k23 (B38 P)) k20 (B39 P) := fun _ _ _ _ _ _ _ _ _ _ _ _ _ => by kernel_rfl
def o40 := O 524268
def B40 (P : PT) : Y k0 := fun H =>
  P (Value.bool false) H
theorem q40 P : Q o40 (ret P) k0 (B40 P) := fun _ _ => by kernel_rfl
abbrev k24 : Sk := [(0,.v),(3,.x),(4,.v),(5,J),(13,.x),(14,J),(15,J),(16,J),(19,.x),(21,.v),(22,J),(23,.v),(24,J)]
def o41 := O 131066
def B41 (P : PT) : Y k24 := fun x0 x3 x4 x5 x13 x14 x15 x16 x19 x21 x22 x23 x24 H =>
  pif ((x22 : Int) != x24) (B40 P H) (AC Tryz.prog T0 24 [x21, x23] H (fun v1 H2 => asB v1 (fun v3 => pif (!v3) (B40 P H2) (B39 P x0 x3 x4 x5 x13 x14 x15 x16 x19 x21 x22 H2))))
theorem q41 P : Q o41 (cnd 142 (E k0 (B40 P)) (E k20 (B39 P))) k24 (B41 P) := fun _ _ _ _ _ _ _ _ _ _ _ _ _ _ _ => by kernel_rfl
abbrev k25 : Sk := [(0,.v),(3,.x),(4,.v),(5,J),(13,.x),(14,J),(15,J),(16,J),(19,.x),(20,.v),(21,.v),(22,J)]
def o42 := O 65532
def B42 (P : PT) : Y k25 := fun x0 x3 x4 x5 x13 x14 x15 x16 x19 x20 x21 x22 H =>
  ldI .i64 H x19 0 (fun v1 => ld1 H x19 1 (fun v2 => AC Tryz.prog T0 45 [(Value.agg ⟨[(Value.int .i64 v1), v2]⟩), x20] H (fun v3 H4 => tup2 v3 (fun v5 v6 => asI .i64 v6 (fun v8 => B41 P x0 x3 x4 x5 x13 x14 x15 x16 x19 x21 x22 v5 v8 H4)))))
theorem q42 P : Q o42 (E k24 (B41 P)) k25 (B42 P) := fun _ _ _ _ _ _ _ _ _ _ _ _ _ _ => by kernel_rfl
abbrev k26 : Sk := [(0,.v),(3,.x),(4,.v),(5,J),(13,.x),(14,J),(15,J),(16,J),(19,.x),(20,.v)]
def o43 := O 16382
def B43 (P : PT) : Y k26 := fun x0 x3 x4 x5 x13 x14 x15 x16 x19 x20 H =>
  ldI .i64 H x19 0 (fun v1 => ld1 H x19 1 (fun v2 => AC Tryz.prog T0 44 [(Value.agg ⟨[(Value.int .i64 v1), v2]⟩), x20] H (fun v3 H4 => tup2 v3 (fun v5 v6 => asI .i64 v6 (fun v8 => B42 P x0 x3 x4 x5 x13 x14 x15 x16 x19 x20 v5 v8 H4)))))
theorem q43 P : Q o43 (E k25 (B42 P)) k26 (B43 P) := fun _ _ _ _ _ _ _ _ _ _ _ _ => by kernel_rfl
abbrev k27 : Sk := [(0,.v),(3,.x),(4,.v),(5,J),(13,.x),(14,J),(15,J),(16,J)]
def o44 := O 8190
def B44 (P : PT) : Y k27 := fun x0 x3 x4 x5 x13 x14 x15 x16 H =>
  AC Tryz.prog T0 43 [x0] H (fun v1 H2 => tup2 v1 (fun v3 v4 => agg2 v3 (fun v5 v6 => asI .i64 v5 (fun v7 => newK H2 [(Value.int .i64 0), (Value.slice none 0 0)] 31 (fun b10 H11 => stK H11 b10 0 [(Value.int .i64 v7), v6] (fun H12 => B43 P x0 x3 x4 x5 x13 x14 x15 x16 b10 v4 H12))))))
theorem q44 P : Q o44 (E k26 (B43 P)) k27 (B44 P) := fun _ _ _ _ _ _ _ _ _ _ => by kernel_rfl
def o45 := O 65516
def B45 (P : PT) : Y k0 := fun H =>
  P (Value.bool false) H
theorem q45 P : Q o45 (ret P) k0 (B45 P) := fun _ _ => by kernel_rfl
abbrev k28 : Sk := [(0,.v),(3,.x),(4,.v),(5,J),(13,.x),(14,J),(15,J),(16,J),(17,J),(18,J)]
def o46 := O 16378
def B46 (P : PT) : Y k28 := fun x0 x3 x4 x5 x13 x14 x15 x16 x17 x18 H =>
  pif ((x16 : Int) != x18) (B45 P H) (pif ((x15 : Int) != x17) (B45 P H) (B44 P x0 x3 x4 x5 x13 x14 x15 x16 H))
theorem q46 P : Q o46 (cnd 116 (E k0 (B45 P)) (E k27 (B44 P))) k28 (B46 P) := fun _ _ _ _ _ _ _ _ _ _ _ _ => by kernel_rfl
def o47 := O 8188
def B47 (P : PT) : Y k27 := fun x0 x3 x4 x5 x13 x14 x15 x16 H =>
  ldI .i64 H x13 0 (fun v1 => ld1 H x13 1 (fun v2 => AC Tryz.prog T0 42 [(Value.agg ⟨[(Value.int .i64 v1), v2]⟩), (Value.int .i64 x14)] H (fun v3 H4 => tup2 v3 (fun v5 v6 => asI .i64 v5 (fun v7 => asI .i64 v6 (fun v8 => B46 P x0 x3 x4 x5 x13 x14 x15 x16 v7 v8 H4))))))
theorem q47 P : Q o47 (E k28 (B46 P)) k27 (B47 P) := fun _ _ _ _ _ _ _ _ _ _ => by kernel_rfl
abbrev k29 : Sk := [(0,.v),(3,.x),(4,.v),(5,J),(13,.x),(14,J)]
def o48 := O 2046
def B48 (P : PT) : Y k29 := fun x0 x3 x4 x5 x13 x14 H =>
  ldI .i64 H x13 0 (fun v1 => ld1 H x13 1 (fun v2 => AC Tryz.prog T0 41 [(Value.agg ⟨[(Value.int .i64 v1), v2]⟩), (Value.int .i64 x14)] H (fun v3 H4 => tup2 v3 (fun v5 v6 => asI .i64 v5 (fun v7 => asI .i64 v6 (fun v8 => B47 P x0 x3 x4 x5 x13 x14 v7 v8 H4))))))
theorem q48 P : Q o48 (E k27 (B47 P)) k29 (B48 P) := fun _ _ _ _ _ _ _ _ => by kernel_rfl
abbrev k30 : Sk := [(0,.v),(3,.x),(4,.v),(5,J)]
def o49 := O 1022
def B49 (P : PT) : Y k30 := fun x0 x3 x4 x5 H =>
  AC Tryz.prog T0 40 [x0] H (fun v1 H2 => tup2 v1 (fun v3 v4 => agg2 v3 (fun v5 v6 => asI .i64 v5 (fun v7 => asI .i64 v4 (fun v9 => newK H2 [(Value.int .i64 0), (Value.slice none 0 0)] 31 (fun b10 H11 => stK H11 b10 0 [(Value.int .i64 v7), v6] (fun H12 => B48 P x0 x3 x4 x5 b10 v9 H12)))))))
theorem q49 P : Q o49 (E k29 (B48 P)) k30 (B49 P) := fun _ _ _ _ _ _ => by kernel_rfl
def o50 := O 8172
def B50 (P : PT) : Y k0 := fun H =>
  P (Value.bool false) H
theorem q50 P : Q o50 (ret P) k0 (B50 P) := fun _ _ => by kernel_rfl
abbrev k31 : Sk := [(0,.v),(3,.x),(4,.v),(5,J),(9,J),(10,J),(11,J),(12,J)]
def o51 := O 2042
def B51 (P : PT) : Y k31 := fun x0 x3 x4 x5 x9 x10 x11 x12 H =>
  pif ((x10 : Int) != x12) (B50 P H) (pif ((x9 : Int) != x11) (B50 P H) (B49 P x0 x3 x4 x5 H))
theorem q51 P : Q o51 (cnd 91 (E k0 (B50 P)) (E k30 (B49 P))) k31 (B51 P) := fun _ _ _ _ _ _ _ _ _ _ => by kernel_rfl
abbrev k32 : Sk := [(0,.v),(3,.x),(4,.v),(5,J),(8,.x),(9,J),(10,J)]
def o52 := O 1020
def B52 (P : PT) : Y k32 := fun x0 x3 x4 x5 x8 x9 x10 H =>
  ldI .i64 H x8 0 (fun v1 => ld1 H x8 1 (fun v2 => AC Tryz.prog T0 39 [(Value.agg ⟨[(Value.int .i64 v1), v2]⟩)] H (fun v3 H4 => tup2 v3 (fun v5 v6 => asI .i64 v5 (fun v7 => asI .i64 v6 (fun v8 => B51 P x0 x3 x4 x5 x9 x10 v7 v8 H4))))))
theorem q52 P : Q o52 (E k31 (B51 P)) k32 (B52 P) := fun _ _ _ _ _ _ _ _ _ => by kernel_rfl
abbrev k33 : Sk := [(0,.v),(3,.x),(4,.v),(5,J),(8,.x)]
def o53 := O 254
def B53 (P : PT) : Y k33 := fun x0 x3 x4 x5 x8 H =>
  ldI .i64 H x8 0 (fun v1 => ld1 H x8 1 (fun v2 => AC Tryz.prog T0 18 [(Value.agg ⟨[(Value.int .i64 v1), v2]⟩)] H (fun v3 H4 => tup2 v3 (fun v5 v6 => asI .i64 v5 (fun v7 => asI .i64 v6 (fun v8 => B52 P x0 x3 x4 x5 x8 v7 v8 H4))))))
theorem q53 P : Q o53 (E k32 (B52 P)) k33 (B53 P) := fun _ _ _ _ _ _ _ => by kernel_rfl
def o54 := O 126
def B54 (P : PT) : Y k30 := fun x0 x3 x4 x5 H =>
  AC Tryz.prog T0 38 [x0] H (fun v1 H2 => agg2 v1 (fun v3 v4 => asI .i64 v3 (fun v5 => newK H2 [(Value.int .i64 0), (Value.slice none 0 0)] 31 (fun b7 H8 => stK H8 b7 0 [(Value.int .i64 v5), v4] (fun H9 => B53 P x0 x3 x4 x5 b7 H9)))))
theorem q54 P : Q o54 (E k33 (B53 P)) k30 (B54 P) := fun _ _ _ _ _ _ => by kernel_rfl
def o55 := O 1004
def B55 (P : PT) : Y k0 := fun H =>
  P (Value.bool false) H
theorem q55 P : Q o55 (ret P) k0 (B55 P) := fun _ _ => by kernel_rfl
abbrev k34 : Sk := [(0,.v),(3,.x),(4,.v),(5,J),(6,.v),(7,J)]
def o56 := O 250
def B56 (P : PT) : Y k34 := fun x0 x3 x4 x5 x6 x7 H =>
  pif ((x5 : Int) != x7) (B55 P H) (AC Tryz.prog T0 37 [x4, x6] H (fun v1 H2 => asB v1 (fun v3 => pif (!v3) (B55 P H2) (B54 P x0 x3 x4 x5 H2))))
theorem q56 P : Q o56 (cnd 71 (E k0 (B55 P)) (E k30 (B54 P))) k34 (B56 P) := fun _ _ _ _ _ _ _ _ => by kernel_rfl
def o57 := O 124
def B57 (P : PT) : Y k30 := fun x0 x3 x4 x5 H =>
  ldI .i64 H x3 0 (fun v1 => ld1 H x3 1 (fun v2 => AC Tryz.prog T0 36 [(Value.agg ⟨[(Value.int .i64 v1), v2]⟩)] H (fun v3 H4 => tup2 v3 (fun v5 v6 => asI .i64 v6 (fun v8 => B56 P x0 x3 x4 x5 v5 v8 H4)))))
theorem q57 P : Q o57 (E k34 (B56 P)) k30 (B57 P) := fun _ _ _ _ _ _ => by kernel_rfl
abbrev k35 : Sk := [(0,.v),(3,.x)]
def o58 := O 30
def B58 (P : PT) : Y k35 := fun x0 x3 H =>
  ldI .i64 H x3 0 (fun v1 => ld1 H x3 1 (fun v2 => AC Tryz.prog T0 35 [(Value.agg ⟨[(Value.int .i64 v1), v2]⟩)] H (fun v3 H4 => tup2 v3 (fun v5 v6 => asI .i64 v6 (fun v8 => B57 P x0 x3 v5 v8 H4)))))
theorem q58 P : Q o58 (E k30 (B57 P)) k35 (B58 P) := fun _ _ _ _ => by kernel_rfl
abbrev k36 : Sk := [(0,.v)]
def o59 := O 14
def B59 (P : PT) : Y k36 := fun x0 H =>
  AC Tryz.prog T0 34 [x0] H (fun v1 H2 => agg2 v1 (fun v3 v4 => asI .i64 v3 (fun v5 => newK H2 [(Value.int .i64 0), (Value.slice none 0 0)] 31 (fun b7 H8 => stK H8 b7 0 [(Value.int .i64 v5), v4] (fun H9 => B58 P x0 b7 H9)))))
theorem q59 P : Q o59 (E k35 (B58 P)) k36 (B59 P) := fun _ _ _ => by kernel_rfl
def o60 := O 52
def B60 (P : PT) : Y k0 := fun H =>
  P (Value.bool true) H
theorem q60 P : Q o60 (ret P) k0 (B60 P) := fun _ _ => by kernel_rfl
def o61 := O 12
def B61 (P : PT) : Y k36 := fun x0 H =>
  AC Tryz.prog T0 7 [x0] H (fun v1 H2 => asB v1 (fun v3 => pif v3 (B60 P H2) (B59 P x0 H2)))
theorem q61 P : Q o61 (cnd 50 (E k0 (B60 P)) (E k36 (B59 P))) k36 (B61 P) := fun _ _ _ => by kernel_rfl
def o62 := O 2
def B62 (P : PT) : Y k36 := fun x0 H =>
  B61 P x0 H
theorem q62 P : Q o62 (E k36 (B61 P)) k36 (B62 P) := fun _ _ _ => by kernel_rfl
def code : Code := (.seq (R 0 o62) (.seq (.seq (R 1 o61) (.cond (.tmp 50) (.seq (R 2 o60) .ret) .skip)) (.seq (R 3 o59) (.seq (R 4 o58) (.seq (.seq (R 5 o57) (.seq (R 6 o56) (.cond (.tmp 71) (.seq (R 7 o55) .ret) .skip))) (.seq (R 8 o54) (.seq (R 9 o53) (.seq (.seq (R 10 o52) (.seq (R 11 o51) (.cond (.tmp 91) (.seq (R 12 o50) .ret) .skip))) (.seq (R 13 o49) (.seq (R 14 o48) (.seq (.seq (R 15 o47) (.seq (R 16 o46) (.cond (.tmp 116) (.seq (R 17 o45) .ret) .skip))) (.seq (R 18 o44) (.seq (R 19 o43) (.seq (.seq (R 20 o42) (.seq (R 21 o41) (.cond (.tmp 142) (.seq (R 22 o40) .ret) .skip))) (.seq (R 23 o39) (.seq (R 24 o38) (.seq (.seq (R 25 o37) (.seq (R 26 o36) (.cond (.tmp 167) (.seq (R 27 o35) .ret) .skip))) (.seq (R 28 o34) (.seq (R 29 o33) (.seq (.seq (R 30 o32) (.seq (R 31 o31) (.cond (.tmp 188) (.seq (R 32 o30) .ret) .skip))) (.seq (.seq (.region 33 ⟨o29⟩ true) (.cond (.tmp 197) (.seq (R 34 o28) .ret) .skip)) (.seq (.seq (R 35 o27) (.cond (.tmp 199) (.seq (.region 36 ⟨o26⟩ true) (.seq (R 37 o25) (.seq (R 38 o24) (.seq (.seq (R 39 o23) (.block 0 (.loop (.seq (.seq (R 40 o22) (.cond (.tmp 219) .skip (.exit 0))) (.seq (.block 1 (.seq (.region 42 ⟨o21⟩ true) (.seq (.seq (R 43 o20) (.cond (.tmp 232) (.seq (R 44 o19) .ret) .skip)) (R 45 o18)))) (R 41 o17)))))) (.seq (R 46 o15) (.cond (.tmp 251) (.seq (R 47 o14) .ret) .skip)))))) .skip)) (.seq (.seq (R 48 o13) (.cond (.tmp 253) (.seq (R 49 o12) .ret) .skip)) (.seq (R 50 o11) (.seq (.seq (R 51 o10) (.cond (.tmp 269) (.seq (R 52 o9) .ret) .skip)) (.seq (.seq (R 53 o8) (.block 2 (.loop (.seq (.seq (R 54 o7) (.cond (.tmp 277) .skip (.exit 2))) (.seq (.block 3 (.seq (.region 56 ⟨o6⟩ true) (.seq (R 57 o5) (.cond (.tmp 294) (.seq (R 58 o4) .ret) .skip)))) (R 55 o3)))))) (.seq (R 59 o1) .ret)))))))))))))))))))))))))))
theorem body : Tryz.f5.body = some code := by kernel_rfl
theorem main (P : PT) : ∀ env H, (En 295 k36 (B62 P)) env H → AW Tryz.prog T0 code env H (M (ret P)) :=
  (r_seq (b (q62 P)) (r_seq (r_seq (b (q61 P)) (r_cond rfl (r_seq (b (q60 P)) r_ret) r_skip)) (r_seq (b (q59 P)) (r_seq (b (q58 P)) (r_seq (r_seq (b (q57 P)) (r_seq (b (q56 P)) (r_cond rfl (r_seq (b (q55 P)) r_ret) r_skip))) (r_seq (b (q54 P)) (r_seq (b (q53 P)) (r_seq (r_seq (b (q52 P)) (r_seq (b (q51 P)) (r_cond rfl (r_seq (b (q50 P)) r_ret) r_skip))) (r_seq (b (q49 P)) (r_seq (b (q48 P)) (r_seq (r_seq (b (q47 P)) (r_seq (b (q46 P)) (r_cond rfl (r_seq (b (q45 P)) r_ret) r_skip))) (r_seq (b (q44 P)) (r_seq (b (q43 P)) (r_seq (r_seq (b (q42 P)) (r_seq (b (q41 P)) (r_cond rfl (r_seq (b (q40 P)) r_ret) r_skip))) (r_seq (b (q39 P)) (r_seq (b (q38 P)) (r_seq (r_seq (b (q37 P)) (r_seq (b (q36 P)) (r_cond rfl (r_seq (b (q35 P)) r_ret) r_skip))) (r_seq (b (q34 P)) (r_seq (b (q33 P)) (r_seq (r_seq (b (q32 P)) (r_seq (b (q31 P)) (r_cond rfl (r_seq (b (q30 P)) r_ret) r_skip))) (r_seq (r_seq (rD T0_ok mixed [(0, false), (1, false), (2, false), (3, false), (5, false), (6, false), (4, true), (7, false), (8, false)] (by kernel_rfl) (q29 P)) (r_cond rfl (r_seq (b (q28 P)) r_ret) r_skip)) (r_seq (r_seq (b (q27 P)) (r_cond rfl (r_seq (rD T0_ok mixed [(0, false), (1, false), (2, false), (3, false), (4, false), (5, false), (6, false), (7, false), (8, false), (9, false), (10, false), (11, false), (12, false)] (by kernel_rfl) (q26 P)) (r_seq (b (q25 P)) (r_seq (b (q24 P)) (r_seq (r_seq (b (q23 P)) (r_block (rL (l16 P) (fun N16 => (r_seq (r_seq (b (q22 P N16)) (r_cond rfl r_skip (r_exit (fun _ _ h => h)))) (r_seq (r_block (r_seq (rD T0_ok mixed [(0, false), (1, false), (2, false), (3, false), (4, false), (5, false), (6, false), (7, false), (8, false), (9, false), (10, false)] (by kernel_rfl) (q21 P N16)) (r_seq (r_seq (b (q20 P N16)) (r_cond rfl (r_seq (b (q19 P N16)) r_ret) r_skip)) (b (q18 P N16))))) (b (q17 P N16)))))))) (r_seq (b (q15 P)) (r_cond rfl (r_seq (b (q14 P)) r_ret) r_skip)))))) r_skip)) (r_seq (r_seq (b (q13 P)) (r_cond rfl (r_seq (b (q12 P)) r_ret) r_skip)) (r_seq (b (q11 P)) (r_seq (r_seq (b (q10 P)) (r_cond rfl (r_seq (b (q9 P)) r_ret) r_skip)) (r_seq (r_seq (b (q8 P)) (r_block (rL (l2 P) (fun N2 => (r_seq (r_seq (b (q7 P N2)) (r_cond rfl r_skip (r_exit (fun _ _ h => h)))) (r_seq (r_block (r_seq (rD T0_ok mixed [(0, false), (1, false), (2, false), (3, false), (4, false), (5, false), (6, false), (7, false), (8, false), (9, false), (10, false)] (by kernel_rfl) (q6 P N2)) (r_seq (b (q5 P N2)) (r_cond rfl (r_seq (b (q4 P N2)) r_ret) r_skip)))) (b (q3 P N2)))))))) (r_seq (b (q1 P)) r_ret)))))))))))))))))))))))))))
theorem ac (P : PT) (x0 : Value) (H : AHeap) (h : B62 P x0 H) : AC Tryz.prog T0 5 [x0] H P :=
  r_fn T0_ok (c := code) (n := 295) Tryz.func5 body (by kernel_rfl) (main P) (En_mk (x0, ()) (by kernel_rfl) ⟨by kernel_rfl, trivial⟩ h)

end F5
namespace F7
abbrev E := En 6
abbrev Q := QB Tryz.prog T0 6
def O (k : Nat) := ob Tryz.f7 (pth k)
def ret (P : PT) : EP := retE T0 6 Tryz.f7 P
abbrev k0 : Sk := [(0,.v)]
def o1 := O 6
def B1 (P : PT) : Y k0 := fun x0 H =>
  lenK x0 (fun n1 => P (Value.bool (decide (((n1 : Int) : Int) > 4096))) H)
theorem q1 P : Q o1 (ret P) k0 (B1 P) := fun _ _ _ => by kernel_rfl
def o2 := O 2
def B2 (P : PT) : Y k0 := fun x0 H =>
  B1 P x0 H
theorem q2 P : Q o2 (E k0 (B1 P)) k0 (B2 P) := fun _ _ _ => by kernel_rfl
def code : Code := (.seq (R 0 o2) (.seq (R 1 o1) .ret))
theorem body : Tryz.f7.body = some code := by kernel_rfl
theorem main (P : PT) : ∀ env H, (En 6 k0 (B2 P)) env H → AW Tryz.prog T0 code env H (M (ret P)) :=
  (r_seq (b (q2 P)) (r_seq (b (q1 P)) r_ret))
theorem ac (P : PT) (x0 : Value) (H : AHeap) (h : B2 P x0 H) : AC Tryz.prog T0 7 [x0] H P :=
  r_fn T0_ok (c := code) (n := 6) Tryz.func7 body (by kernel_rfl) (main P) (En_mk (x0, ()) (by kernel_rfl) ⟨by kernel_rfl, trivial⟩ h)

end F7
namespace F13
abbrev E := En 25
abbrev Q := QB Tryz.prog T0 25
def O (k : Nat) := ob Tryz.f13 (pth k)
def ret (P : PT) : EP := retE T0 25 Tryz.f13 P
abbrev k0 : Sk := [(1,.x)]
def o1 := O 6
def B1 (P : PT) : Y k0 := fun x1 H =>
  ldI .i64 H x1 0 (fun v1 => ld1 H x1 1 (fun v2 => AC Tryz.prog T0 61 [(Value.int .i64 v1), v2] H (fun v3 H4 => asB v3 (fun v5 => pif v5 (ld1 H4 x1 1 (fun v6 => AC Tryz.prog T0 62 [v6, (Value.func (.func 63) ⟨[]⟩ ⟨[]⟩)] H4 (fun v7 H8 => asB v7 (fun v9 => pif v9 (ld1 H8 x1 1 (fun v10 => AC Tryz.prog T0 64 [v10, (Value.func (.func 65) ⟨[]⟩ ⟨[]⟩)] H8 (fun v11 H12 => asB v11 (fun v13 => pif v13 (ldI .i64 H12 x1 0 (fun v14 => ld1 H12 x1 1 (fun v15 => AC Tryz.prog T0 66 [(Value.int .i64 v14), v15] H12 (fun v16 H17 => asB v16 (fun v18 => P (Value.bool v18) H17))))) (P (Value.bool false) H12))))) (P (Value.bool false) H8))))) (P (Value.bool false) H4)))))
theorem q1 P : Q o1 (ret P) k0 (B1 P) := fun _ _ _ => by kernel_rfl
abbrev k1 : Sk := [(0,.g [.i,.v])]
def o2 := O 2
def B2 (P : PT) : Y k1 := fun x0a x0b H =>
  newK H [(Value.int .i64 x0a), x0b] 31 (fun b1 H2 => B1 P b1 H2)
theorem q2 P : Q o2 (E k0 (B1 P)) k1 (B2 P) := fun _ _ _ _ => by kernel_rfl
def code : Code := (.seq (R 0 o2) (.seq (R 1 o1) .ret))
theorem body : Tryz.f13.body = some code := by kernel_rfl
theorem main (P : PT) : ∀ env H, (En 25 k1 (B2 P)) env H → AW Tryz.prog T0 code env H (M (ret P)) :=
  (r_seq (b (q2 P)) (r_seq (b (q1 P)) r_ret))
theorem ac (P : PT) (x0a : Int) (x0b : Value) (H : AHeap) (h : B2 P x0a x0b H) : AC Tryz.prog T0 13 [(Value.agg ⟨[(Value.int .i64 x0a), x0b]⟩)] H P :=
  r_fn T0_ok (c := code) (n := 25) Tryz.func13 body (by kernel_rfl) (main P) (En_mk (x0a, x0b, ()) (by kernel_rfl) ⟨by kernel_rfl, trivial⟩ h)

end F13
namespace F18
abbrev E := En 12
abbrev Q := QB Tryz.prog T0 12
def O (k : Nat) := ob Tryz.f18 (pth k)
def ret (P : PT) : EP := retE T0 12 Tryz.f18 P
abbrev k0 : Sk := [(1,.x)]
def o1 := O 14
def B1 (P : PT) : Y k0 := fun x1 H =>
  ldI .i64 H x1 0 (fun v1 => ld1 H x1 1 (fun v2 => AC Tryz.prog T0 75 [(Value.agg ⟨[(Value.int .i64 v1), v2]⟩), (Value.int .u64 0)] H (fun v3 H4 => asI .i64 v3 (fun v5 => P (Value.tuple ⟨[(Value.int .i64 v5), (Value.int .i64 0)]⟩) H4))))
theorem q1 P : Q o1 (ret P) k0 (B1 P) := fun _ _ _ => by kernel_rfl
abbrev k1 : Sk := [(4,J)]
def o2 := O 108
def B2 (P : PT) : Y k1 := fun x4 H =>
  P (Value.tuple ⟨[(Value.int .i64 0), (Value.int .i64 x4)]⟩) H
theorem q2 P : Q o2 (ret P) k1 (B2 P) := fun _ _ _ => by kernel_rfl
abbrev k2 : Sk := [(1,.x),(4,J)]
def o3 := O 26
def B3 (P : PT) : Y k2 := fun x1 x4 H =>
  pif ((x4 : Int) != 0) (B2 P x4 H) (B1 P x1 H)
theorem q3 P : Q o3 (cnd 8 (E k1 (B2 P)) (E k0 (B1 P))) k2 (B3 P) := fun _ _ _ _ => by kernel_rfl
def o4 := O 12
def B4 (P : PT) : Y k0 := fun x1 H =>
  ldI .i64 H x1 0 (fun v1 => ld1 H x1 1 (fun v2 => AC Tryz.prog T0 55 [(Value.agg ⟨[(Value.int .i64 v1), v2]⟩), (Value.bool true)] H (fun v3 H4 => asI .i64 v3 (fun v5 => B3 P x1 v5 H4))))
theorem q4 P : Q o4 (E k2 (B3 P)) k0 (B4 P) := fun _ _ _ => by kernel_rfl
abbrev k3 : Sk := [(0,.g [.i,.v])]
def o5 := O 2
def B5 (P : PT) : Y k3 := fun x0a x0b H =>
  newK H [(Value.int .i64 x0a), x0b] 31 (fun b1 H2 => B4 P b1 H2)
theorem q5 P : Q o5 (E k0 (B4 P)) k3 (B5 P) := fun _ _ _ _ => by kernel_rfl
def code : Code := (.seq (R 0 o5) (.seq (.seq (R 1 o4) (.seq (R 2 o3) (.cond (.tmp 8) (.seq (R 3 o2) .ret) .skip))) (.seq (R 4 o1) .ret)))
theorem body : Tryz.f18.body = some code := by kernel_rfl
theorem main (P : PT) : ∀ env H, (En 12 k3 (B5 P)) env H → AW Tryz.prog T0 code env H (M (ret P)) :=
  (r_seq (b (q5 P)) (r_seq (r_seq (b (q4 P)) (r_seq (b (q3 P)) (r_cond rfl (r_seq (b (q2 P)) r_ret) r_skip))) (r_seq (b (q1 P)) r_ret)))
theorem ac (P : PT) (x0a : Int) (x0b : Value) (H : AHeap) (h : B5 P x0a x0b H) : AC Tryz.prog T0 18 [(Value.agg ⟨[(Value.int .i64 x0a), x0b]⟩)] H P :=
  r_fn T0_ok (c := code) (n := 12) Tryz.func18 body (by kernel_rfl) (main P) (En_mk (x0a, x0b, ()) (by kernel_rfl) ⟨by kernel_rfl, trivial⟩ h)

end F18
namespace F24
abbrev E := En 26
abbrev Q := QB Tryz.prog T0 26
def O (k : Nat) := ob Tryz.f24 (pth k)
def ret (P : PT) : EP := retE T0 26 Tryz.f24 P
abbrev k0 : Sk := []
def o1 := O 30
def B1 (P : PT) : Y k0 := fun H =>
  P (Value.bool true) H
theorem q1 P : Q o1 (ret P) k0 (B1 P) := fun _ _ => by kernel_rfl
abbrev k1 : Sk := [(0,.v),(1,.v),(5,J)]
def o3 := O 467
def B3 (P : PT) (N2 : Y k1) : Y k1 := fun x0 x1 x5 H =>
  N2 x0 x1 (IntKind.i64.wrap (x5 + 1)) H
theorem q3 P N2 : Q o3 (E k1 N2) k1 (B3 P N2) := fun _ _ _ _ _ => by kernel_rfl
def o4 := O 7460
def B4 (P : PT) (N2 : Y k1) : Y k0 := fun H =>
  P (Value.bool false) H
theorem q4 P N2 : Q o4 (ret P) k0 (B4 P N2) := fun _ _ => by kernel_rfl
def o5 := O 1864
def B5 (P : PT) (N2 : Y k1) : Y k1 := fun x0 x1 x5 H =>
  idxK x0 x5 1 (fun b1 o2 => ldI .i64 H b1 o2 (fun v3 => idxK x1 x5 1 (fun b4 o5 => ldI .i64 H b4 o5 (fun v6 => pif ((v3 : Int) != v6) (B4 P N2 H) (B3 P N2 x0 x1 x5 H)))))
theorem q5 (P : PT) (N2 : Y k1) : QD Tryz.prog T0 26 o5 [(0, false), (1, false), (2, false), (3, false), (4, false), (5, false), (6, false), (7, false), (8, false)] (cnd 25 (En 26 k0 (B4 P N2)) (En 26 k1 (B3 P N2))) k1 (B5 P N2) := fun _ _ _ _ _  => by kernel_rfl
def o6 := O 464
def B6 (P : PT) (N2 : Y k1) : Y k1 := fun x0 x1 x5 H =>
  lenK x0 (fun n1 => pif (decide ((x5 : Int) < (n1 : Int))) (B5 P N2 x0 x1 x5 H) (B1 P H))
theorem q6 P N2 : Q o6 (cnd 14 (E k1 (B5 P N2)) (E k0 (B1 P))) k1 (B6 P N2) := fun _ _ _ _ _ => by kernel_rfl
def L2 (P : PT) : Y k1 := fun x0 x1 x5 H =>
  ∃ (I : Y k1) (μ : NTy k1 (AHeap → Nat)), I x0 x1 x5 H ∧ ∀ y0 y1 y5 G, I y0 y1 y5 G → B6 P (fun z0 z1 z5 G' => I z0 z1 z5 G' ∧ μ z0 z1 z5 G' < μ y0 y1 y5 G) y0 y1 y5 G
theorem l2 P : LQ k1 (L2 P) (B6 P) := fun ⟨_,_,_,_⟩ _ ⟨I, μ, h0, hI⟩ => ⟨apT _ I, apT _ μ, h0, fun ⟨_,_,_,_⟩ _ h => hI _ _ _ _  h⟩
abbrev k2 : Sk := [(0,.v),(1,.v)]
def o7 := O 28
def B7 (P : PT) : Y k2 := fun x0 x1 H =>
  L2 P x0 x1 0 H
theorem q7 P : Q o7 (E k1 (L2 P)) k2 (B7 P) := fun _ _ _ _ => by kernel_rfl
def o8 := O 52
def B8 (P : PT) : Y k0 := fun H =>
  P (Value.bool false) H
theorem q8 P : Q o8 (ret P) k0 (B8 P) := fun _ _ => by kernel_rfl
def o9 := O 12
def B9 (P : PT) : Y k2 := fun x0 x1 H =>
  lenK x0 (fun n1 => lenK x1 (fun n2 => pif (((n1 : Int) : Int) != (n2 : Int)) (B8 P H) (B7 P x0 x1 H)))
theorem q9 P : Q o9 (cnd 10 (E k0 (B8 P)) (E k2 (B7 P))) k2 (B9 P) := fun _ _ _ _ => by kernel_rfl
def o10 := O 2
def B10 (P : PT) : Y k2 := fun x0 x1 H =>
  B9 P x0 x1 H
theorem q10 P : Q o10 (E k2 (B9 P)) k2 (B10 P) := fun _ _ _ _ => by kernel_rfl
def code : Code := (.seq (R 0 o10) (.seq (.seq (R 1 o9) (.cond (.tmp 10) (.seq (R 2 o8) .ret) .skip)) (.seq (.seq (R 3 o7) (.block 0 (.loop (.seq (.seq (R 4 o6) (.cond (.tmp 14) .skip (.exit 0))) (.seq (.block 1 (.seq (.region 6 ⟨o5⟩ true) (.cond (.tmp 25) (.seq (R 7 o4) .ret) .skip))) (R 5 o3)))))) (.seq (R 8 o1) .ret))))
theorem body : Tryz.f24.body = some code := by kernel_rfl
theorem main (P : PT) : ∀ env H, (En 26 k2 (B10 P)) env H → AW Tryz.prog T0 code env H (M (ret P)) :=
  (r_seq (b (q10 P)) (r_seq (r_seq (b (q9 P)) (r_cond rfl (r_seq (b (q8 P)) r_ret) r_skip)) (r_seq (r_seq (b (q7 P)) (r_block (rL (l2 P) (fun N2 => (r_seq (r_seq (b (q6 P N2)) (r_cond rfl r_skip (r_exit (fun _ _ h => h)))) (r_seq (r_block (r_seq (rD T0_ok mixed [(0, false), (1, false), (2, false), (3, false), (4, false), (5, false), (6, false), (7, false), (8, false)] (by kernel_rfl) (q5 P N2)) (r_cond rfl (r_seq (b (q4 P N2)) r_ret) r_skip))) (b (q3 P N2)))))))) (r_seq (b (q1 P)) r_ret))))
theorem ac (P : PT) (x0 x1 : Value) (H : AHeap) (h : B10 P x0 x1 H) : AC Tryz.prog T0 24 [x0, x1] H P :=
  r_fn T0_ok (c := code) (n := 26) Tryz.func24 body (by kernel_rfl) (main P) (En_mk (x0, x1, ()) (by kernel_rfl) ⟨by kernel_rfl, by kernel_rfl, trivial⟩ h)

end F24
namespace F34
abbrev E := En 6
abbrev Q := QB Tryz.prog T0 6
def O (k : Nat) := ob Tryz.f34 (pth k)
def ret (P : PT) : EP := retE T0 6 Tryz.f34 P
abbrev k0 : Sk := [(0,.v),(2,.x)]
def o1 := O 6
def B1 (P : PT) : Y k0 := fun x0 x2 H =>
  AC Tryz.prog T0 78 [x0] H (fun v1 H2 => AC Tryz.prog T0 94 [v1] H2 (fun v4 H5 => agg2 v4 (fun v6 v7 => asI .i64 v6 (fun v8 => stK H5 x2 0 [(Value.int .i64 v8), v7] (fun H10 => ldI .i64 H10 x2 0 (fun v11 => ld1 H10 x2 1 (fun v12 => P (Value.agg ⟨[(Value.int .i64 v11), v12]⟩) H10)))))))
theorem q1 P : Q o1 (ret P) k0 (B1 P) := fun _ _ _ _ => by kernel_rfl
abbrev k1 : Sk := [(0,.v)]
def o2 := O 2
def B2 (P : PT) : Y k1 := fun x0 H =>
  newK H [(Value.int .i64 0), (Value.slice none 0 0)] 31 (fun b1 H2 => B1 P x0 b1 H2)
theorem q2 P : Q o2 (E k0 (B1 P)) k1 (B2 P) := fun _ _ _ => by kernel_rfl
def code : Code := (.seq (R 0 o2) (.seq (R 1 o1) .ret))
theorem body : Tryz.f34.body = some code := by kernel_rfl
theorem main (P : PT) : ∀ env H, (En 6 k1 (B2 P)) env H → AW Tryz.prog T0 code env H (M (ret P)) :=
  (r_seq (b (q2 P)) (r_seq (b (q1 P)) r_ret))
theorem ac (P : PT) (x0 : Value) (H : AHeap) (h : B2 P x0 H) : AC Tryz.prog T0 34 [x0] H P :=
  r_fn T0_ok (c := code) (n := 6) Tryz.func34 body (by kernel_rfl) (main P) (En_mk (x0, ()) (by kernel_rfl) ⟨by kernel_rfl, trivial⟩ h)

end F34
namespace F35
abbrev E := En 35
abbrev Q := QB Tryz.prog T0 35
def O (k : Nat) := ob Tryz.f35 (pth k)
def ret (P : PT) : EP := retE T0 35 Tryz.f35 P
abbrev k0 : Sk := [(7,.v)]
def o1 := O 254
def B1 (P : PT) : Y k0 := fun x7 H =>
  P (Value.tuple ⟨[x7, (Value.int .i64 0)]⟩) H
theorem q1 P : Q o1 (ret P) k0 (B1 P) := fun _ _ _ => by kernel_rfl
abbrev k1 : Sk := [(7,.v),(22,.v),(23,J),(24,J)]
def o3 := O 8103
def B3 (P : PT) (N2 : Y k1) : Y k1 := fun x7 x22 x23 x24 H =>
  N2 x7 x22 x23 (IntKind.i64.wrap (x24 + 1)) H
theorem q3 P N2 : Q o3 (E k1 N2) k1 (B3 P N2) := fun _ _ _ _ _ _ => by kernel_rfl
abbrev k2 : Sk := [(7,.v),(9,.i .u64),(22,.v),(23,J),(24,J)]
def o4 := O 32409
def B4 (P : PT) (N2 : Y k1) : Y k2 := fun x7 x9 x22 x23 x24 H =>
  AC Tryz.prog T0 80 [(Value.int .u64 x9)] H (fun v1 H2 => pif (Value.oneCell' v1) (newK H2 [v1] 42 (fun b4 H5 => apK T0 42 H5 x7 (Value.slice (some ⟨b4, 0, none⟩) 1 (1 + 1)) (fun v6 H7 => B3 P N2 v6 x22 x23 x24 H7))) False)
theorem q4 P N2 : Q o4 (E k1 (B3 P N2)) k2 (B4 P N2) := fun _ _ _ _ _ _ _ => by kernel_rfl
def o5 := O 32408
def B5 (P : PT) (N2 : Y k1) : Y k1 := fun x7 x22 x23 x24 H =>
  idxK x22 x24 1 (fun b1 o2 => ldI .u64 H b1 o2 (fun v3 => B4 P N2 x7 v3 x22 x23 x24 H))
theorem q5 P N2 : Q o5 (E k2 (B4 P N2)) k1 (B5 P N2) := fun _ _ _ _ _ _ => by kernel_rfl
def o6 := O 2024
def B6 (P : PT) (N2 : Y k1) : Y k1 := fun x7 x22 x23 x24 H =>
  pif (decide ((x24 : Int) < x23)) (B5 P N2 x7 x22 x23 x24 H) (B1 P x7 H)
theorem q6 P N2 : Q o6 (cnd 25 (E k1 (B5 P N2)) (E k0 (B1 P))) k1 (B6 P N2) := fun _ _ _ _ _ _ => by kernel_rfl
def L2 (P : PT) : Y k1 := fun x7 x22 x23 x24 H =>
  ∃ (I : Y k1) (μ : NTy k1 (AHeap → Nat)), I x7 x22 x23 x24 H ∧ ∀ y7 y22 y23 y24 G, I y7 y22 y23 y24 G → B6 P (fun z7 z22 z23 z24 G' => I z7 z22 z23 z24 G' ∧ μ z7 z22 z23 z24 G' < μ y7 y22 y23 y24 G) y7 y22 y23 y24 G
theorem l2 P : LQ k1 (L2 P) (B6 P) := fun ⟨_,_,_,_,_⟩ _ ⟨I, μ, h0, hI⟩ => ⟨apT _ I, apT _ μ, h0, fun ⟨_,_,_,_,_⟩ _ h => hI _ _ _ _ _  h⟩
abbrev k3 : Sk := [(5,.v),(7,.v)]
def o7 := O 252
def B7 (P : PT) : Y k3 := fun x5 x7 H =>
  lenK x5 (fun n1 => L2 P x7 x5 (n1 : Int) 0 H)
theorem q7 P : Q o7 (E k1 (L2 P)) k3 (B7 P) := fun _ _ _ _ => by kernel_rfl
abbrev k4 : Sk := [(5,.v)]
def o8 := O 62
def B8 (P : PT) : Y k4 := fun x5 H =>
  B7 P x5 (Value.slice none 0 0) H
theorem q8 P : Q o8 (E k3 (B7 P)) k4 (B8 P) := fun _ _ _ => by kernel_rfl
abbrev k5 : Sk := []
def o9 := O 244
def B9 (P : PT) : Y k5 := fun H =>
  P (Value.tuple ⟨[(Value.slice none 0 0), (Value.int .i64 3)]⟩) H
theorem q9 P : Q o9 (ret P) k5 (B9 P) := fun _ _ => by kernel_rfl
abbrev k6 : Sk := [(5,.v),(6,.b)]
def o10 := O 60
def B10 (P : PT) : Y k6 := fun x5 x6 H =>
  pif (!x6) (B9 P H) (B8 P x5 H)
theorem q10 P : Q o10 (cnd 21 (E k5 (B9 P)) (E k4 (B8 P))) k6 (B10 P) := fun _ _ _ _ => by kernel_rfl
abbrev k7 : Sk := [(1,.x)]
def o11 := O 14
def B11 (P : PT) : Y k7 := fun x1 H =>
  ldI .i64 H x1 0 (fun v1 => ld1 H x1 1 (fun v2 => AC Tryz.prog T0 97 [(Value.agg ⟨[(Value.int .i64 v1), v2]⟩)] H (fun v3 H4 => tup2 v3 (fun v5 v6 => asB v6 (fun v8 => B10 P v5 v8 H4)))))
theorem q11 P : Q o11 (E k6 (B10 P)) k7 (B11 P) := fun _ _ _ => by kernel_rfl
abbrev k8 : Sk := [(4,J)]
def o12 := O 108
def B12 (P : PT) : Y k8 := fun x4 H =>
  P (Value.tuple ⟨[(Value.slice none 0 0), (Value.int .i64 x4)]⟩) H
theorem q12 P : Q o12 (ret P) k8 (B12 P) := fun _ _ _ => by kernel_rfl
abbrev k9 : Sk := [(1,.x),(4,J)]
def o13 := O 26
def B13 (P : PT) : Y k9 := fun x1 x4 H =>
  pif ((x4 : Int) != 0) (B12 P x4 H) (B11 P x1 H)
theorem q13 P : Q o13 (cnd 13 (E k8 (B12 P)) (E k7 (B11 P))) k9 (B13 P) := fun _ _ _ _ => by kernel_rfl
def o14 := O 12
def B14 (P : PT) : Y k7 := fun x1 H =>
  ldI .i64 H x1 0 (fun v1 => ld1 H x1 1 (fun v2 => AC Tryz.prog T0 55 [(Value.agg ⟨[(Value.int .i64 v1), v2]⟩), (Value.bool true)] H (fun v3 H4 => asI .i64 v3 (fun v5 => B13 P x1 v5 H4))))
theorem q14 P : Q o14 (E k9 (B13 P)) k7 (B14 P) := fun _ _ _ => by kernel_rfl
abbrev k10 : Sk := [(0,.g [.i,.v])]
def o15 := O 2
def B15 (P : PT) : Y k10 := fun x0a x0b H =>
  newK H [(Value.int .i64 x0a), x0b] 31 (fun b1 H2 => B14 P b1 H2)
theorem q15 P : Q o15 (E k7 (B14 P)) k10 (B15 P) := fun _ _ _ _ => by kernel_rfl
def code : Code := (.seq (R 0 o15) (.seq (.seq (R 1 o14) (.seq (R 2 o13) (.cond (.tmp 13) (.seq (R 3 o12) .ret) .skip))) (.seq (R 4 o11) (.seq (.seq (R 5 o10) (.cond (.tmp 21) (.seq (R 6 o9) .ret) .skip)) (.seq (R 7 o8) (.seq (.seq (R 8 o7) (.block 0 (.loop (.seq (R 9 o6) (.seq (.cond (.tmp 25) .skip (.exit 0)) (.seq (.block 1 (.seq (R 10 o5) (R 11 o4))) (R 12 o3))))))) (.seq (R 13 o1) .ret)))))))
theorem body : Tryz.f35.body = some code := by kernel_rfl
theorem main (P : PT) : ∀ env H, (En 35 k10 (B15 P)) env H → AW Tryz.prog T0 code env H (M (ret P)) :=
  (r_seq (b (q15 P)) (r_seq (r_seq (b (q14 P)) (r_seq (b (q13 P)) (r_cond rfl (r_seq (b (q12 P)) r_ret) r_skip))) (r_seq (b (q11 P)) (r_seq (r_seq (b (q10 P)) (r_cond rfl (r_seq (b (q9 P)) r_ret) r_skip)) (r_seq (b (q8 P)) (r_seq (r_seq (b (q7 P)) (r_block (rL (l2 P) (fun N2 => (r_seq (b (q6 P N2)) (r_seq (r_cond rfl r_skip (r_exit (fun _ _ h => h))) (r_seq (r_block (r_seq (b (q5 P N2)) (b (q4 P N2)))) (b (q3 P N2))))))))) (r_seq (b (q1 P)) r_ret)))))))
theorem ac (P : PT) (x0a : Int) (x0b : Value) (H : AHeap) (h : B15 P x0a x0b H) : AC Tryz.prog T0 35 [(Value.agg ⟨[(Value.int .i64 x0a), x0b]⟩)] H P :=
  r_fn T0_ok (c := code) (n := 35) Tryz.func35 body (by kernel_rfl) (main P) (En_mk (x0a, x0b, ()) (by kernel_rfl) ⟨by kernel_rfl, trivial⟩ h)

end F35
namespace F36
abbrev E := En 14
abbrev Q := QB Tryz.prog T0 14
def O (k : Nat) := ob Tryz.f36 (pth k)
def ret (P : PT) : EP := retE T0 14 Tryz.f36 P
abbrev k0 : Sk := [(4,.v)]
def o1 := O 62
def B1 (P : PT) : Y k0 := fun x4 H =>
  P (Value.tuple ⟨[x4, (Value.int .i64 0)]⟩) H
theorem q1 P : Q o1 (ret P) k0 (B1 P) := fun _ _ _ => by kernel_rfl
abbrev k1 : Sk := []
def o2 := O 244
def B2 (P : PT) : Y k1 := fun H =>
  P (Value.tuple ⟨[(Value.slice none 0 0), (Value.int .i64 3)]⟩) H
theorem q2 P : Q o2 (ret P) k1 (B2 P) := fun _ _ => by kernel_rfl
def o3 := O 60
def B3 (P : PT) : Y k0 := fun x4 H =>
  lenK x4 (fun n1 => pif (decide (((n1 : Int) : Int) > 60)) (B2 P H) (B1 P x4 H))
theorem q3 P : Q o3 (cnd 12 (E k1 (B2 P)) (E k0 (B1 P))) k0 (B3 P) := fun _ _ _ => by kernel_rfl
abbrev k2 : Sk := [(1,.x)]
def o4 := O 14
def B4 (P : PT) : Y k2 := fun x1 H =>
  ldI .i64 H x1 0 (fun v1 => ld1 H x1 1 (fun v2 => AC Tryz.prog T0 98 [(Value.agg ⟨[(Value.int .i64 v1), v2]⟩)] H (fun v3 H4 => B3 P v3 H4)))
theorem q4 P : Q o4 (E k0 (B3 P)) k2 (B4 P) := fun _ _ _ => by kernel_rfl
def o5 := O 52
def B5 (P : PT) : Y k1 := fun H =>
  P (Value.tuple ⟨[(Value.slice none 0 0), (Value.int .i64 1)]⟩) H
theorem q5 P : Q o5 (ret P) k1 (B5 P) := fun _ _ => by kernel_rfl
def o6 := O 12
def B6 (P : PT) : Y k2 := fun x1 H =>
  ldI .i64 H x1 0 (fun v1 => ld1 H x1 1 (fun v2 => AC Tryz.prog T0 68 [(Value.agg ⟨[(Value.int .i64 v1), v2]⟩)] H (fun v3 H4 => asB v3 (fun v5 => pif (!v5) (B5 P H4) (B4 P x1 H4)))))
theorem q6 P : Q o6 (cnd 7 (E k1 (B5 P)) (E k2 (B4 P))) k2 (B6 P) := fun _ _ _ => by kernel_rfl
abbrev k3 : Sk := [(0,.g [.i,.v])]
def o7 := O 2
def B7 (P : PT) : Y k3 := fun x0a x0b H =>
  newK H [(Value.int .i64 x0a), x0b] 31 (fun b1 H2 => B6 P b1 H2)
theorem q7 P : Q o7 (E k2 (B6 P)) k3 (B7 P) := fun _ _ _ _ => by kernel_rfl
def code : Code := (.seq (R 0 o7) (.seq (.seq (R 1 o6) (.cond (.tmp 7) (.seq (R 2 o5) .ret) .skip)) (.seq (R 3 o4) (.seq (.seq (R 4 o3) (.cond (.tmp 12) (.seq (R 5 o2) .ret) .skip)) (.seq (R 6 o1) .ret)))))
theorem body : Tryz.f36.body = some code := by kernel_rfl
theorem main (P : PT) : ∀ env H, (En 14 k3 (B7 P)) env H → AW Tryz.prog T0 code env H (M (ret P)) :=
  (r_seq (b (q7 P)) (r_seq (r_seq (b (q6 P)) (r_cond rfl (r_seq (b (q5 P)) r_ret) r_skip)) (r_seq (b (q4 P)) (r_seq (r_seq (b (q3 P)) (r_cond rfl (r_seq (b (q2 P)) r_ret) r_skip)) (r_seq (b (q1 P)) r_ret)))))
theorem ac (P : PT) (x0a : Int) (x0b : Value) (H : AHeap) (h : B7 P x0a x0b H) : AC Tryz.prog T0 36 [(Value.agg ⟨[(Value.int .i64 x0a), x0b]⟩)] H P :=
  r_fn T0_ok (c := code) (n := 14) Tryz.func36 body (by kernel_rfl) (main P) (En_mk (x0a, x0b, ()) (by kernel_rfl) ⟨by kernel_rfl, trivial⟩ h)

end F36
namespace F37
abbrev E := En 27
abbrev Q := QB Tryz.prog T0 27
def O (k : Nat) := ob Tryz.f37 (pth k)
def ret (P : PT) : EP := retE T0 27 Tryz.f37 P
abbrev k0 : Sk := []
def o1 := O 30
def B1 (P : PT) : Y k0 := fun H =>
  P (Value.bool true) H
theorem q1 P : Q o1 (ret P) k0 (B1 P) := fun _ _ => by kernel_rfl
abbrev k1 : Sk := [(0,.v),(1,.v),(5,J)]
def o3 := O 467
def B3 (P : PT) (N2 : Y k1) : Y k1 := fun x0 x1 x5 H =>
  N2 x0 x1 (IntKind.i64.wrap (x5 + 1)) H
theorem q3 P N2 : Q o3 (E k1 N2) k1 (B3 P N2) := fun _ _ _ _ _ => by kernel_rfl
def o4 := O 7460
def B4 (P : PT) (N2 : Y k1) : Y k0 := fun H =>
  P (Value.bool false) H
theorem q4 P N2 : Q o4 (ret P) k0 (B4 P N2) := fun _ _ => by kernel_rfl
def o5 := O 1864
def B5 (P : PT) (N2 : Y k1) : Y k1 := fun x0 x1 x5 H =>
  idxK x0 x5 1 (fun b1 o2 => ld1 H b1 o2 (fun v3 => idxK x1 x5 1 (fun b4 o5 => ld1 H b4 o5 (fun v6 => AC Tryz.prog T0 24 [v3, v6] H (fun v7 H8 => asB v7 (fun v9 => pif (!v9) (B4 P N2 H8) (B3 P N2 x0 x1 x5 H8)))))))
theorem q5 (P : PT) (N2 : Y k1) : QD Tryz.prog T0 27 o5 [(0, false), (1, false), (2, false), (3, false), (4, false), (5, false), (6, false), (7, false), (8, false), (9, false)] (cnd 26 (En 27 k0 (B4 P N2)) (En 27 k1 (B3 P N2))) k1 (B5 P N2) := fun _ _ _ _ _  => by kernel_rfl
def o6 := O 464
def B6 (P : PT) (N2 : Y k1) : Y k1 := fun x0 x1 x5 H =>
  lenK x0 (fun n1 => pif (decide ((x5 : Int) < (n1 : Int))) (B5 P N2 x0 x1 x5 H) (B1 P H))
theorem q6 P N2 : Q o6 (cnd 14 (E k1 (B5 P N2)) (E k0 (B1 P))) k1 (B6 P N2) := fun _ _ _ _ _ => by kernel_rfl
def L2 (P : PT) : Y k1 := fun x0 x1 x5 H =>
  ∃ (I : Y k1) (μ : NTy k1 (AHeap → Nat)), I x0 x1 x5 H ∧ ∀ y0 y1 y5 G, I y0 y1 y5 G → B6 P (fun z0 z1 z5 G' => I z0 z1 z5 G' ∧ μ z0 z1 z5 G' < μ y0 y1 y5 G) y0 y1 y5 G
theorem l2 P : LQ k1 (L2 P) (B6 P) := fun ⟨_,_,_,_⟩ _ ⟨I, μ, h0, hI⟩ => ⟨apT _ I, apT _ μ, h0, fun ⟨_,_,_,_⟩ _ h => hI _ _ _ _  h⟩
abbrev k2 : Sk := [(0,.v),(1,.v)]
def o7 := O 28
def B7 (P : PT) : Y k2 := fun x0 x1 H =>
  L2 P x0 x1 0 H
theorem q7 P : Q o7 (E k1 (L2 P)) k2 (B7 P) := fun _ _ _ _ => by kernel_rfl
def o8 := O 52
def B8 (P : PT) : Y k0 := fun H =>
  P (Value.bool false) H
theorem q8 P : Q o8 (ret P) k0 (B8 P) := fun _ _ => by kernel_rfl
def o9 := O 12
def B9 (P : PT) : Y k2 := fun x0 x1 H =>
  lenK x0 (fun n1 => lenK x1 (fun n2 => pif (((n1 : Int) : Int) != (n2 : Int)) (B8 P H) (B7 P x0 x1 H)))
theorem q9 P : Q o9 (cnd 10 (E k0 (B8 P)) (E k2 (B7 P))) k2 (B9 P) := fun _ _ _ _ => by kernel_rfl
def o10 := O 2
def B10 (P : PT) : Y k2 := fun x0 x1 H =>
  B9 P x0 x1 H
theorem q10 P : Q o10 (E k2 (B9 P)) k2 (B10 P) := fun _ _ _ _ => by kernel_rfl
def code : Code := (.seq (R 0 o10) (.seq (.seq (R 1 o9) (.cond (.tmp 10) (.seq (R 2 o8) .ret) .skip)) (.seq (.seq (R 3 o7) (.block 0 (.loop (.seq (.seq (R 4 o6) (.cond (.tmp 14) .skip (.exit 0))) (.seq (.block 1 (.seq (.region 6 ⟨o5⟩ true) (.cond (.tmp 26) (.seq (R 7 o4) .ret) .skip))) (R 5 o3)))))) (.seq (R 8 o1) .ret))))
theorem body : Tryz.f37.body = some code := by kernel_rfl
theorem main (P : PT) : ∀ env H, (En 27 k2 (B10 P)) env H → AW Tryz.prog T0 code env H (M (ret P)) :=
  (r_seq (b (q10 P)) (r_seq (r_seq (b (q9 P)) (r_cond rfl (r_seq (b (q8 P)) r_ret) r_skip)) (r_seq (r_seq (b (q7 P)) (r_block (rL (l2 P) (fun N2 => (r_seq (r_seq (b (q6 P N2)) (r_cond rfl r_skip (r_exit (fun _ _ h => h)))) (r_seq (r_block (r_seq (rD T0_ok mixed [(0, false), (1, false), (2, false), (3, false), (4, false), (5, false), (6, false), (7, false), (8, false), (9, false)] (by kernel_rfl) (q5 P N2)) (r_cond rfl (r_seq (b (q4 P N2)) r_ret) r_skip))) (b (q3 P N2)))))))) (r_seq (b (q1 P)) r_ret))))
theorem ac (P : PT) (x0 x1 : Value) (H : AHeap) (h : B10 P x0 x1 H) : AC Tryz.prog T0 37 [x0, x1] H P :=
  r_fn T0_ok (c := code) (n := 27) Tryz.func37 body (by kernel_rfl) (main P) (En_mk (x0, x1, ()) (by kernel_rfl) ⟨by kernel_rfl, by kernel_rfl, trivial⟩ h)

end F37
namespace F38
abbrev E := En 6
abbrev Q := QB Tryz.prog T0 6
def O (k : Nat) := ob Tryz.f38 (pth k)
def ret (P : PT) : EP := retE T0 6 Tryz.f38 P
abbrev k0 : Sk := [(0,.v),(2,.x)]
def o1 := O 6
def B1 (P : PT) : Y k0 := fun x0 x2 H =>
  AC Tryz.prog T0 78 [x0] H (fun v1 H2 => AC Tryz.prog T0 94 [v1] H2 (fun v4 H5 => agg2 v4 (fun v6 v7 => asI .i64 v6 (fun v8 => stK H5 x2 0 [(Value.int .i64 v8), v7] (fun H10 => ldI .i64 H10 x2 0 (fun v11 => ld1 H10 x2 1 (fun v12 => P (Value.agg ⟨[(Value.int .i64 v11), v12]⟩) H10)))))))
theorem q1 P : Q o1 (ret P) k0 (B1 P) := fun _ _ _ _ => by kernel_rfl
abbrev k1 : Sk := [(0,.v)]
def o2 := O 2
def B2 (P : PT) : Y k1 := fun x0 H =>
  newK H [(Value.int .i64 0), (Value.slice none 0 0)] 31 (fun b1 H2 => B1 P x0 b1 H2)
theorem q2 P : Q o2 (E k0 (B1 P)) k1 (B2 P) := fun _ _ _ => by kernel_rfl
def code : Code := (.seq (R 0 o2) (.seq (R 1 o1) .ret))
theorem body : Tryz.f38.body = some code := by kernel_rfl
theorem main (P : PT) : ∀ env H, (En 6 k1 (B2 P)) env H → AW Tryz.prog T0 code env H (M (ret P)) :=
  (r_seq (b (q2 P)) (r_seq (b (q1 P)) r_ret))
theorem ac (P : PT) (x0 : Value) (H : AHeap) (h : B2 P x0 H) : AC Tryz.prog T0 38 [x0] H P :=
  r_fn T0_ok (c := code) (n := 6) Tryz.func38 body (by kernel_rfl) (main P) (En_mk (x0, ()) (by kernel_rfl) ⟨by kernel_rfl, trivial⟩ h)

end F38
namespace F39
abbrev E := En 10
abbrev Q := QB Tryz.prog T0 10
def O (k : Nat) := ob Tryz.f39 (pth k)
def ret (P : PT) : EP := retE T0 10 Tryz.f39 P
abbrev k0 : Sk := [(1,.x)]
def o1 := O 14
def B1 (P : PT) : Y k0 := fun x1 H =>
  ldI .i64 H x1 0 (fun v1 => ld1 H x1 1 (fun v2 => AC Tryz.prog T0 98 [(Value.agg ⟨[(Value.int .i64 v1), v2]⟩)] H (fun v3 H4 => lenK v3 (fun n6 => P (Value.tuple ⟨[(Value.int .i64 (n6 : Int)), (Value.int .i64 0)]⟩) H4))))
theorem q1 P : Q o1 (ret P) k0 (B1 P) := fun _ _ _ => by kernel_rfl
abbrev k1 : Sk := []
def o2 := O 52
def B2 (P : PT) : Y k1 := fun H =>
  P (Value.tuple ⟨[(Value.int .i64 0), (Value.int .i64 1)]⟩) H
theorem q2 P : Q o2 (ret P) k1 (B2 P) := fun _ _ => by kernel_rfl
def o3 := O 12
def B3 (P : PT) : Y k0 := fun x1 H =>
  ldI .i64 H x1 0 (fun v1 => ld1 H x1 1 (fun v2 => AC Tryz.prog T0 68 [(Value.agg ⟨[(Value.int .i64 v1), v2]⟩)] H (fun v3 H4 => asB v3 (fun v5 => pif (!v5) (B2 P H4) (B1 P x1 H4)))))
theorem q3 P : Q o3 (cnd 6 (E k1 (B2 P)) (E k0 (B1 P))) k0 (B3 P) := fun _ _ _ => by kernel_rfl
abbrev k2 : Sk := [(0,.g [.i,.v])]
def o4 := O 2
def B4 (P : PT) : Y k2 := fun x0a x0b H =>
  newK H [(Value.int .i64 x0a), x0b] 31 (fun b1 H2 => B3 P b1 H2)
theorem q4 P : Q o4 (E k0 (B3 P)) k2 (B4 P) := fun _ _ _ _ => by kernel_rfl
def code : Code := (.seq (R 0 o4) (.seq (.seq (R 1 o3) (.cond (.tmp 6) (.seq (R 2 o2) .ret) .skip)) (.seq (R 3 o1) .ret)))
theorem body : Tryz.f39.body = some code := by kernel_rfl
theorem main (P : PT) : ∀ env H, (En 10 k2 (B4 P)) env H → AW Tryz.prog T0 code env H (M (ret P)) :=
  (r_seq (b (q4 P)) (r_seq (r_seq (b (q3 P)) (r_cond rfl (r_seq (b (q2 P)) r_ret) r_skip)) (r_seq (b (q1 P)) r_ret)))
theorem ac (P : PT) (x0a : Int) (x0b : Value) (H : AHeap) (h : B4 P x0a x0b H) : AC Tryz.prog T0 39 [(Value.agg ⟨[(Value.int .i64 x0a), x0b]⟩)] H P :=
  r_fn T0_ok (c := code) (n := 10) Tryz.func39 body (by kernel_rfl) (main P) (En_mk (x0a, x0b, ()) (by kernel_rfl) ⟨by kernel_rfl, trivial⟩ h)

end F39
namespace F40
abbrev E := En 20
abbrev Q := QB Tryz.prog T0 20
def O (k : Nat) := ob Tryz.f40 (pth k)
def ret (P : PT) : EP := retE T0 20 Tryz.f40 P
abbrev k0 : Sk := [(2,.x),(4,.v),(5,.x)]
def o1 := O 30
def B1 (P : PT) : Y k0 := fun x2 x4 x5 H =>
  ldI .i64 H x5 0 (fun v1 => ld1 H x5 1 (fun v2 => ld1 H x5 1 (fun v3 => lenK v3 (fun n4 => AC Tryz.prog T0 88 [x4, (Value.int .i64 12)] H (fun v5 H6 => asI .i64 v5 (fun v7 => (ldI .i64 H6 x5 0 (fun v8 => ld1 H6 x5 1 (fun v9 => ((Value.agg ⟨[(Value.int .i64 v8), v9]⟩) = (Value.agg ⟨[(Value.int .i64 v1), v2]⟩)) ∧ (H6 = H6)))) ∧ ((ld1 H6 x5 1 (fun v10 => (v10 = v3) ∧ (H6 = H6))) ∧ (AC Tryz.prog T0 88 [x4, (Value.int .i64 (IntKind.i64.wrap ((n4 : Int) + (IntKind.i64.wrap (Int.tdiv v7 11)))))] H6 (fun v11 H12 => asI .i64 v11 (fun v13 => (ldI .i64 H12 x5 0 (fun v14 => ld1 H12 x5 1 (fun v15 => ((Value.agg ⟨[(Value.int .i64 v14), v15]⟩) = (Value.agg ⟨[(Value.int .i64 v1), v2]⟩)) ∧ (H12 = H12)))) ∧ (stK H12 x2 0 [(Value.int .i64 v1), v2] (fun H16 => ldI .i64 H16 x2 0 (fun v17 => ld1 H16 x2 1 (fun v18 => P (Value.tuple ⟨[(Value.agg ⟨[(Value.int .i64 v17), v18]⟩), (Value.int .i64 v13)]⟩) H16))))))))))))))
theorem q1 (P : PT) : QT Tryz.prog T0 20 o1 (.op 0 [] (.op 1 [] (.op 2 [] (.op 3 [] (.op 4 [] (.op 5 [] (.op 6 [0, 3] (.op 7 [] (.op 8 [] (.op 9 [0] (.op 10 [] (.op 11 [] .done)))))))))))) (ret P) k0 (B1 P) := fun _ _ _ _ _  => by kernel_rfl
abbrev k1 : Sk := [(2,.x),(4,.v)]
def o2 := O 14
def B2 (P : PT) : Y k1 := fun x2 x4 H =>
  AC Tryz.prog T0 94 [x4] H (fun v1 H2 => agg2 v1 (fun v3 v4 => asI .i64 v3 (fun v5 => newK H2 [(Value.int .i64 0), (Value.slice none 0 0)] 31 (fun b7 H8 => stK H8 b7 0 [(Value.int .i64 v5), v4] (fun H9 => B1 P x2 x4 b7 H9)))))
theorem q2 P : Q o2 (E k0 (B1 P)) k1 (B2 P) := fun _ _ _ _ => by kernel_rfl
abbrev k2 : Sk := [(0,.v),(2,.x)]
def o3 := O 6
def B3 (P : PT) : Y k2 := fun x0 x2 H =>
  AC Tryz.prog T0 78 [x0] H (fun v1 H2 => B2 P x2 v1 H2)
theorem q3 P : Q o3 (E k1 (B2 P)) k2 (B3 P) := fun _ _ _ _ => by kernel_rfl
abbrev k3 : Sk := [(0,.v)]
def o4 := O 2
def B4 (P : PT) : Y k3 := fun x0 H =>
  newK H [(Value.int .i64 0), (Value.slice none 0 0)] 31 (fun b1 H2 => B3 P x0 b1 H2)
theorem q4 P : Q o4 (E k2 (B3 P)) k3 (B4 P) := fun _ _ _ => by kernel_rfl
def code : Code := (.seq (R 0 o4) (.seq (R 1 o3) (.seq (R 2 o2) (.seq (.region 3 ⟨o1⟩ true) .ret))))
theorem body : Tryz.f40.body = some code := by kernel_rfl
theorem main (P : PT) : ∀ env H, (En 20 k3 (B4 P)) env H → AW Tryz.prog T0 code env H (M (ret P)) :=
  (r_seq (b (q4 P)) (r_seq (b (q3 P)) (r_seq (b (q2 P)) (r_seq (rT T0_ok mixed (.op 0 [] (.op 1 [] (.op 2 [] (.op 3 [] (.op 4 [] (.op 5 [] (.op 6 [0, 3] (.op 7 [] (.op 8 [] (.op 9 [0] (.op 10 [] (.op 11 [] .done)))))))))))) (by kernel_rfl) (q1 P)) r_ret))))
theorem ac (P : PT) (x0 : Value) (H : AHeap) (h : B4 P x0 H) : AC Tryz.prog T0 40 [x0] H P :=
  r_fn T0_ok (c := code) (n := 20) Tryz.func40 body (by kernel_rfl) (main P) (En_mk (x0, ()) (by kernel_rfl) ⟨by kernel_rfl, trivial⟩ h)

end F40
namespace F41
abbrev E := En 19
abbrev Q := QB Tryz.prog T0 19
def O (k : Nat) := ob Tryz.f41 (pth k)
def ret (P : PT) : EP := retE T0 19 Tryz.f41 P
abbrev k0 : Sk := [(1,J),(2,.x)]
def o1 := O 14
def B1 (P : PT) : Y k0 := fun x1 x2 H =>
  ldI .i64 H x2 0 (fun v1 => ld1 H x2 1 (fun v2 => ((0 : Int) ≤ x1) ∧ (AC Tryz.prog T0 75 [(Value.agg ⟨[(Value.int .i64 v1), v2]⟩), (Value.int .u64 (IntKind.u64.wrap (1 * 2 ^ (min (Int.toNat x1) 64))))] H (fun v3 H4 => asI .i64 v3 (fun v5 => P (Value.tuple ⟨[(Value.int .i64 v5), (Value.int .i64 0)]⟩) H4)))))
theorem q1 (P : PT) : QD Tryz.prog T0 19 o1 [(0, false), (1, false), (2, false), (3, false), (4, false), (5, false)] (ret P) k0 (B1 P) := fun _ _ _ _  => by kernel_rfl
abbrev k1 : Sk := [(6,J)]
def o2 := O 108
def B2 (P : PT) : Y k1 := fun x6 H =>
  P (Value.tuple ⟨[(Value.int .i64 0), (Value.int .i64 x6)]⟩) H
theorem q2 P : Q o2 (ret P) k1 (B2 P) := fun _ _ _ => by kernel_rfl
abbrev k2 : Sk := [(1,J),(2,.x),(6,J)]
def o3 := O 26
def B3 (P : PT) : Y k2 := fun x1 x2 x6 H =>
  pif ((x6 : Int) != 0) (B2 P x6 H) (B1 P x1 x2 H)
theorem q3 P : Q o3 (cnd 13 (E k1 (B2 P)) (E k0 (B1 P))) k2 (B3 P) := fun _ _ _ _ _ => by kernel_rfl
def o4 := O 12
def B4 (P : PT) : Y k0 := fun x1 x2 H =>
  ldI .i64 H x2 0 (fun v1 => ld1 H x2 1 (fun v2 => ldI .i64 H x2 0 (fun v3 => ld1 H x2 1 (fun v4 => AC Tryz.prog T0 56 [(Value.agg ⟨[(Value.int .i64 v3), v4]⟩), (Value.int .i64 x1)] H (fun v5 H6 => asB v5 (fun v7 => (AHeap.le H H6) ∧ (AC Tryz.prog T0 55 [(Value.agg ⟨[(Value.int .i64 v1), v2]⟩), (Value.bool v7)] H6 (fun v8 H9 => asI .i64 v8 (fun v10 => B3 P x1 x2 v10 H9)))))))))
theorem q4 (P : PT) : QD Tryz.prog T0 19 o4 [(0, false), (1, false), (2, false), (3, true), (4, false), (5, false)] (En 19 k2 (B3 P)) k0 (B4 P) := fun _ _ _ _  => by kernel_rfl
abbrev k3 : Sk := [(0,.g [.i,.v]),(1,J)]
def o5 := O 2
def B5 (P : PT) : Y k3 := fun x0a x0b x1 H =>
  newK H [(Value.int .i64 x0a), x0b] 31 (fun b1 H2 => B4 P x1 b1 H2)
theorem q5 P : Q o5 (E k0 (B4 P)) k3 (B5 P) := fun _ _ _ _ _ => by kernel_rfl
def code : Code := (.seq (R 0 o5) (.seq (.seq (.region 1 ⟨o4⟩ true) (.seq (R 2 o3) (.cond (.tmp 13) (.seq (R 3 o2) .ret) .skip))) (.seq (.region 4 ⟨o1⟩ true) .ret)))
theorem body : Tryz.f41.body = some code := by kernel_rfl
theorem main (P : PT) : ∀ env H, (En 19 k3 (B5 P)) env H → AW Tryz.prog T0 code env H (M (ret P)) :=
  (r_seq (b (q5 P)) (r_seq (r_seq (rD T0_ok mixed [(0, false), (1, false), (2, false), (3, true), (4, false), (5, false)] (by kernel_rfl) (q4 P)) (r_seq (b (q3 P)) (r_cond rfl (r_seq (b (q2 P)) r_ret) r_skip))) (r_seq (rD T0_ok mixed [(0, false), (1, false), (2, false), (3, false), (4, false), (5, false)] (by kernel_rfl) (q1 P)) r_ret)))
theorem ac (P : PT) (x0a : Int) (x0b : Value) (x1 : Int) (H : AHeap) (h : B5 P x0a x0b x1 H) : AC Tryz.prog T0 41 [(Value.agg ⟨[(Value.int .i64 x0a), x0b]⟩), (Value.int .i64 x1)] H P :=
  r_fn T0_ok (c := code) (n := 19) Tryz.func41 body (by kernel_rfl) (main P) (En_mk (x0a, x0b, x1, ()) (by kernel_rfl) ⟨by kernel_rfl, by kernel_rfl, trivial⟩ h)

end F41
namespace F42
abbrev E := En 22
abbrev Q := QB Tryz.prog T0 22
def O (k : Nat) := ob Tryz.f42 (pth k)
def ret (P : PT) : EP := retE T0 22 Tryz.f42 P
abbrev k0 : Sk := [(1,J),(2,.x)]
def o1 := O 14
def B1 (P : PT) : Y k0 := fun x1 x2 H =>
  ldI .i64 H x2 0 (fun v1 => ld1 H x2 1 (fun v2 => AC Tryz.prog T0 98 [(Value.agg ⟨[(Value.int .i64 v1), v2]⟩)] H (fun v3 H4 => AC Tryz.prog T0 99 [v3, (Value.int .i64 x1)] H4 (fun v6 H7 => asI .i64 v6 (fun v8 => P (Value.tuple ⟨[(Value.int .i64 v8), (Value.int .i64 0)]⟩) H7)))))
theorem q1 P : Q o1 (ret P) k0 (B1 P) := fun _ _ _ _ => by kernel_rfl
abbrev k1 : Sk := []
def o2 := O 100
def B2 (P : PT) : Y k1 := fun H =>
  P (Value.tuple ⟨[(Value.int .i64 0), (Value.int .i64 1)]⟩) H
theorem q2 P : Q o2 (ret P) k1 (B2 P) := fun _ _ => by kernel_rfl
def o3 := O 412
def B3 (P : PT) : Y k1 := fun H =>
  P (Value.tuple ⟨[(Value.int .i64 0), (Value.int .i64 2)]⟩) H
theorem q3 P : Q o3 (ret P) k1 (B3 P) := fun _ _ => by kernel_rfl
def o4 := O 102
def B4 (P : PT) : Y k0 := fun x1 x2 H =>
  ld1 H x2 1 (fun v1 => lenK v1 (fun n2 => AC Tryz.prog T0 91 [(Value.int .i64 x1), (Value.int .i64 0), (Value.int .i64 (IntKind.i64.wrap ((n2 : Int) - 1)))] H (fun v3 H4 => asB v3 (fun v5 => pif (!v5) (B3 P H4) (B1 P x1 x2 H4)))))
theorem q4 P : Q o4 (cnd 10 (E k1 (B3 P)) (E k0 (B1 P))) k0 (B4 P) := fun _ _ _ _ => by kernel_rfl
def o5 := O 24
def B5 (P : PT) : Y k0 := fun x1 x2 H =>
  ldI .i64 H x2 0 (fun v1 => ld1 H x2 1 (fun v2 => AC Tryz.prog T0 68 [(Value.agg ⟨[(Value.int .i64 v1), v2]⟩)] H (fun v3 H4 => asB v3 (fun v5 => pif (!v5) (B2 P H4) (B4 P x1 x2 H4)))))
theorem q5 P : Q o5 (cnd 6 (E k1 (B2 P)) (E k0 (B4 P))) k0 (B5 P) := fun _ _ _ _ => by kernel_rfl
abbrev k2 : Sk := [(0,.g [.i,.v]),(1,J)]
def o6 := O 2
def B6 (P : PT) : Y k2 := fun x0a x0b x1 H =>
  newK H [(Value.int .i64 x0a), x0b] 31 (fun b1 H2 => B5 P x1 b1 H2)
theorem q6 P : Q o6 (E k0 (B5 P)) k2 (B6 P) := fun _ _ _ _ _ => by kernel_rfl
def code : Code := (.seq (R 0 o6) (.seq (.block 0 (.seq (R 1 o5) (.cond (.tmp 6) (.seq (R 2 o2) .ret) (.seq (R 3 o4) (.cond (.tmp 10) (.seq (R 4 o3) .ret) .skip))))) (.seq (R 5 o1) .ret)))
theorem body : Tryz.f42.body = some code := by kernel_rfl
theorem main (P : PT) : ∀ env H, (En 22 k2 (B6 P)) env H → AW Tryz.prog T0 code env H (M (ret P)) :=
  (r_seq (b (q6 P)) (r_seq (r_block (r_seq (b (q5 P)) (r_cond rfl (r_seq (b (q2 P)) r_ret) (r_seq (b (q4 P)) (r_cond rfl (r_seq (b (q3 P)) r_ret) r_skip))))) (r_seq (b (q1 P)) r_ret)))
theorem ac (P : PT) (x0a : Int) (x0b : Value) (x1 : Int) (H : AHeap) (h : B6 P x0a x0b x1 H) : AC Tryz.prog T0 42 [(Value.agg ⟨[(Value.int .i64 x0a), x0b]⟩), (Value.int .i64 x1)] H P :=
  r_fn T0_ok (c := code) (n := 22) Tryz.func42 body (by kernel_rfl) (main P) (En_mk (x0a, x0b, x1, ()) (by kernel_rfl) ⟨by kernel_rfl, by kernel_rfl, trivial⟩ h)

end F42
namespace F43
abbrev E := En 8
abbrev Q := QB Tryz.prog T0 8
def O (k : Nat) := ob Tryz.f43 (pth k)
def ret (P : PT) : EP := retE T0 8 Tryz.f43 P
abbrev k0 : Sk := [(0,.v),(2,.x)]
def o1 := O 6
def B1 (P : PT) : Y k0 := fun x0 x2 H =>
  AC Tryz.prog T0 100 [x0] H (fun v1 H2 => tup2 v1 (fun v3 v4 => agg2 v3 (fun v5 v6 => asI .i64 v5 (fun v7 => stK H2 x2 0 [(Value.int .i64 v7), v6] (fun H10 => ldI .i64 H10 x2 0 (fun v11 => ld1 H10 x2 1 (fun v12 => P (Value.tuple ⟨[(Value.agg ⟨[(Value.int .i64 v11), v12]⟩), v4]⟩) H10)))))))
theorem q1 P : Q o1 (ret P) k0 (B1 P) := fun _ _ _ _ => by kernel_rfl
abbrev k1 : Sk := [(0,.v)]
def o2 := O 2
def B2 (P : PT) : Y k1 := fun x0 H =>
  newK H [(Value.int .i64 0), (Value.slice none 0 0)] 31 (fun b1 H2 => B1 P x0 b1 H2)
theorem q2 P : Q o2 (E k0 (B1 P)) k1 (B2 P) := fun _ _ _ => by kernel_rfl
def code : Code := (.seq (R 0 o2) (.seq (R 1 o1) .ret))
theorem body : Tryz.f43.body = some code := by kernel_rfl
theorem main (P : PT) : ∀ env H, (En 8 k1 (B2 P)) env H → AW Tryz.prog T0 code env H (M (ret P)) :=
  (r_seq (b (q2 P)) (r_seq (b (q1 P)) r_ret))
theorem ac (P : PT) (x0 : Value) (H : AHeap) (h : B2 P x0 H) : AC Tryz.prog T0 43 [x0] H P :=
  r_fn T0_ok (c := code) (n := 8) Tryz.func43 body (by kernel_rfl) (main P) (En_mk (x0, ()) (by kernel_rfl) ⟨by kernel_rfl, trivial⟩ h)

end F43
namespace F44
abbrev E := En 36
abbrev Q := QB Tryz.prog T0 36
def O (k : Nat) := ob Tryz.f44 (pth k)
def ret (P : PT) : EP := retE T0 36 Tryz.f44 P
abbrev k0 : Sk := [(7,.v)]
def o1 := O 126
def B1 (P : PT) : Y k0 := fun x7 H =>
  P (Value.tuple ⟨[x7, (Value.int .i64 0)]⟩) H
theorem q1 P : Q o1 (ret P) k0 (B1 P) := fun _ _ _ => by kernel_rfl
def o2 := O 62
def B2 (P : PT) : Y k0 := fun x7 H =>
  AC Tryz.prog T0 104 [x7] H (fun v1 H2 => asTup v1 (fun l3 => B1 P x7 H2))
theorem q2 P : Q o2 (E k0 (B1 P)) k0 (B2 P) := fun _ _ _ => by kernel_rfl
abbrev k1 : Sk := [(7,.v),(21,.v),(22,J),(23,J)]
def o4 := O 1959
def B4 (P : PT) (N3 : Y k1) : Y k1 := fun x7 x21 x22 x23 H =>
  N3 x7 x21 x22 (IntKind.i64.wrap (x23 + 1)) H
theorem q4 P N3 : Q o4 (E k1 N3) k1 (B4 P N3) := fun _ _ _ _ _ _ => by kernel_rfl
abbrev k2 : Sk := [(7,.v),(9,.i .u64),(21,.v),(22,J),(23,J)]
def o5 := O 7833
def B5 (P : PT) (N3 : Y k1) : Y k2 := fun x7 x9 x21 x22 x23 H =>
  AC Tryz.prog T0 74 [(Value.int .u64 x9)] H (fun v1 H2 => asI .i64 v1 (fun v3 => newK H2 [(Value.int .i64 v3)] 2 (fun b4 H5 => apK T0 2 H5 x7 (Value.slice (some ⟨b4, 0, none⟩) 1 (1 + 1)) (fun v6 H7 => B4 P N3 v6 x21 x22 x23 H7))))
theorem q5 P N3 : Q o5 (E k1 (B4 P N3)) k2 (B5 P N3) := fun _ _ _ _ _ _ _ => by kernel_rfl
def o6 := O 7832
def B6 (P : PT) (N3 : Y k1) : Y k1 := fun x7 x21 x22 x23 H =>
  idxK x21 x23 1 (fun b1 o2 => ldI .u64 H b1 o2 (fun v3 => B5 P N3 x7 v3 x21 x22 x23 H))
theorem q6 P N3 : Q o6 (E k2 (B5 P N3)) k1 (B6 P N3) := fun _ _ _ _ _ _ => by kernel_rfl
def o7 := O 488
def B7 (P : PT) (N3 : Y k1) : Y k1 := fun x7 x21 x22 x23 H =>
  pif (decide ((x23 : Int) < x22)) (B6 P N3 x7 x21 x22 x23 H) (B2 P x7 H)
theorem q7 P N3 : Q o7 (cnd 24 (E k1 (B6 P N3)) (E k0 (B2 P))) k1 (B7 P N3) := fun _ _ _ _ _ _ => by kernel_rfl
def L3 (P : PT) : Y k1 := fun x7 x21 x22 x23 H =>
  ∃ (I : Y k1) (μ : NTy k1 (AHeap → Nat)), I x7 x21 x22 x23 H ∧ ∀ y7 y21 y22 y23 G, I y7 y21 y22 y23 G → B7 P (fun z7 z21 z22 z23 G' => I z7 z21 z22 z23 G' ∧ μ z7 z21 z22 z23 G' < μ y7 y21 y22 y23 G) y7 y21 y22 y23 G
theorem l3 P : LQ k1 (L3 P) (B7 P) := fun ⟨_,_,_,_,_⟩ _ ⟨I, μ, h0, hI⟩ => ⟨apT _ I, apT _ μ, h0, fun ⟨_,_,_,_,_⟩ _ h => hI _ _ _ _ _  h⟩
abbrev k3 : Sk := [(1,.v),(2,.x),(7,.v)]
def o8 := O 60
def B8 (P : PT) : Y k3 := fun x1 x2 x7 H =>
  ldI .i64 H x2 0 (fun v1 => ld1 H x2 1 (fun v2 => AC Tryz.prog T0 103 [x1] H (fun v3 H4 => asI .u64 v3 (fun v5 => (AHeap.le H H4) ∧ (AC Tryz.prog T0 102 [(Value.agg ⟨[(Value.int .i64 v1), v2]⟩), (Value.int .u64 v5)] H4 (fun v6 H7 => lenK v6 (fun n9 => L3 P x7 v6 (n9 : Int) 0 H7)))))))
theorem q8 (P : PT) : QD Tryz.prog T0 36 o8 [(0, false), (1, false), (5, false), (2, true), (3, false), (4, false)] (En 36 k1 (L3 P)) k3 (B8 P) := fun _ _ _ _ _  => by kernel_rfl
abbrev k4 : Sk := [(1,.v),(2,.x)]
def o9 := O 14
def B9 (P : PT) : Y k4 := fun x1 x2 H =>
  B8 P x1 x2 (Value.slice none 0 0) H
theorem q9 P : Q o9 (E k3 (B8 P)) k4 (B9 P) := fun _ _ _ _ => by kernel_rfl
abbrev k5 : Sk := [(6,J)]
def o10 := O 108
def B10 (P : PT) : Y k5 := fun x6 H =>
  P (Value.tuple ⟨[(Value.slice none 0 0), (Value.int .i64 x6)]⟩) H
theorem q10 P : Q o10 (ret P) k5 (B10 P) := fun _ _ _ => by kernel_rfl
abbrev k6 : Sk := [(1,.v),(2,.x),(6,J)]
def o11 := O 26
def B11 (P : PT) : Y k6 := fun x1 x2 x6 H =>
  pif ((x6 : Int) != 0) (B10 P x6 H) (B9 P x1 x2 H)
theorem q11 P : Q o11 (cnd 16 (E k5 (B10 P)) (E k4 (B9 P))) k6 (B11 P) := fun _ _ _ _ _ => by kernel_rfl
def o12 := O 12
def B12 (P : PT) : Y k4 := fun x1 x2 H =>
  ldI .i64 H x2 0 (fun v1 => ld1 H x2 1 (fun v2 => ldI .i64 H x2 0 (fun v3 => ld1 H x2 1 (fun v4 => AC Tryz.prog T0 101 [(Value.agg ⟨[(Value.int .i64 v3), v4]⟩), x1] H (fun v5 H6 => asB v5 (fun v7 => (AHeap.le H H6) ∧ (AC Tryz.prog T0 55 [(Value.agg ⟨[(Value.int .i64 v1), v2]⟩), (Value.bool v7)] H6 (fun v8 H9 => asI .i64 v8 (fun v10 => B11 P x1 x2 v10 H9)))))))))
theorem q12 (P : PT) : QD Tryz.prog T0 36 o12 [(0, false), (1, false), (2, false), (3, true), (4, false), (5, false)] (En 36 k6 (B11 P)) k4 (B12 P) := fun _ _ _ _  => by kernel_rfl
abbrev k7 : Sk := [(0,.g [.i,.v]),(1,.v)]
def o13 := O 2
def B13 (P : PT) : Y k7 := fun x0a x0b x1 H =>
  newK H [(Value.int .i64 x0a), x0b] 31 (fun b1 H2 => B12 P x1 b1 H2)
theorem q13 P : Q o13 (E k4 (B12 P)) k7 (B13 P) := fun _ _ _ _ _ => by kernel_rfl
def code : Code := (.seq (R 0 o13) (.seq (.seq (.region 1 ⟨o12⟩ true) (.seq (R 2 o11) (.cond (.tmp 16) (.seq (R 3 o10) .ret) .skip))) (.seq (R 4 o9) (.seq (.seq (.region 5 ⟨o8⟩ true) (.block 0 (.loop (.seq (R 6 o7) (.seq (.cond (.tmp 24) .skip (.exit 0)) (.seq (.block 1 (.seq (R 7 o6) (R 8 o5))) (R 9 o4))))))) (.seq (R 10 o2) (.seq (R 11 o1) .ret))))))
theorem body : Tryz.f44.body = some code := by kernel_rfl
theorem main (P : PT) : ∀ env H, (En 36 k7 (B13 P)) env H → AW Tryz.prog T0 code env H (M (ret P)) :=
  (r_seq (b (q13 P)) (r_seq (r_seq (rD T0_ok mixed [(0, false), (1, false), (2, false), (3, true), (4, false), (5, false)] (by kernel_rfl) (q12 P)) (r_seq (b (q11 P)) (r_cond rfl (r_seq (b (q10 P)) r_ret) r_skip))) (r_seq (b (q9 P)) (r_seq (r_seq (rD T0_ok mixed [(0, false), (1, false), (5, false), (2, true), (3, false), (4, false)] (by kernel_rfl) (q8 P)) (r_block (rL (l3 P) (fun N3 => (r_seq (b (q7 P N3)) (r_seq (r_cond rfl r_skip (r_exit (fun _ _ h => h))) (r_seq (r_block (r_seq (b (q6 P N3)) (b (q5 P N3)))) (b (q4 P N3))))))))) (r_seq (b (q2 P)) (r_seq (b (q1 P)) r_ret))))))
theorem ac (P : PT) (x0a : Int) (x0b x1 : Value) (H : AHeap) (h : B13 P x0a x0b x1 H) : AC Tryz.prog T0 44 [(Value.agg ⟨[(Value.int .i64 x0a), x0b]⟩), x1] H P :=
  r_fn T0_ok (c := code) (n := 36) Tryz.func44 body (by kernel_rfl) (main P) (En_mk (x0a, x0b, x1, ()) (by kernel_rfl) ⟨by kernel_rfl, by kernel_rfl, trivial⟩ h)

end F44
namespace F45
abbrev E := En 62
abbrev Q := QB Tryz.prog T0 62
def O (k : Nat) := ob Tryz.f45 (pth k)
def ret (P : PT) : EP := retE T0 62 Tryz.f45 P
abbrev k0 : Sk := [(8,.v)]
def o1 := O 62
def B1 (P : PT) : Y k0 := fun x8 H =>
  P (Value.tuple ⟨[x8, (Value.int .i64 0)]⟩) H
theorem q1 P : Q o1 (ret P) k0 (B1 P) := fun _ _ _ => by kernel_rfl
abbrev k1 : Sk := [(7,.v),(8,.v),(9,J)]
def o3 := O 979
def B3 (P : PT) (N2 : Y k1) : Y k1 := fun x7 x8 x9 H =>
  N2 x7 x8 (IntKind.i64.wrap (x9 + 1)) H
theorem q3 P N2 : Q o3 (E k1 N2) k1 (B3 P N2) := fun _ _ _ _ _ => by kernel_rfl
abbrev k2 : Sk := [(7,.v),(8,.v),(9,J),(11,J),(12,.v)]
def o4 := O 15655
def B4 (P : PT) (N2 : Y k1) : Y k2 := fun x7 x8 x9 x11 x12 H =>
  sliceK H 2 x8 none (some (Value.int .i64 x11)) 1 (fun v1 => AC Tryz.prog T0 89 [v1] H (fun v2 H3 => apK T0 2 H3 v2 x12 (fun v5 H6 => B3 P N2 x7 v5 x9 H6)))
theorem q4 P N2 : Q o4 (E k1 (B3 P N2)) k2 (B4 P N2) := fun _ _ _ _ _ _ _ => by kernel_rfl
abbrev k3 : Sk := [(7,.v),(8,.v),(9,J),(10,J),(11,J)]
def o5 := O 15654
def B5 (P : PT) (N2 : Y k1) : Y k3 := fun x7 x8 x9 x10 x11 H =>
  newK H [(Value.int .i64 x10)] 2 (fun b1 H2 => sliceK H2 2 x8 (some (Value.int .i64 x11)) none 1 (fun v3 => apK T0 2 H2 (Value.slice (some ⟨b1, 0, none⟩) 1 (1 + 1)) v3 (fun v4 H5 => B4 P N2 x7 x8 x9 x11 v4 H5)))
theorem q5 P N2 : Q o5 (E k2 (B4 P N2)) k3 (B5 P N2) := fun _ _ _ _ _ _ _ => by kernel_rfl
def o7 := O 125218
def B7 (P : PT) (N2 : Y k1) (N6 : Y k3) : Y k3 := fun x7 x8 x9 x10 x11 H =>
  N6 x7 x8 x9 x10 (IntKind.i64.wrap (x11 - 1)) H
theorem q7 P N2 N6 : Q o7 (E k3 N6) k3 (B7 P N2 N6) := fun _ _ _ _ _ _ _ => by kernel_rfl
def o8 := O 125216
def B8 (P : PT) (N2 : Y k1) (N6 : Y k3) : Y k3 := fun x7 x8 x9 x10 x11 H =>
  pif (decide ((x11 : Int) > 0)) (idxK x8 (IntKind.i64.wrap (x11 - 1)) 1 (fun b1 o2 => ldI .i64 H b1 o2 (fun v3 => pif (decide ((v3 : Int) > x10)) (B7 P N2 N6 x7 x8 x9 x10 x11 H) (B5 P N2 x7 x8 x9 x10 x11 H)))) (B5 P N2 x7 x8 x9 x10 x11 H)
theorem q8 P N2 N6 : Q o8 (cnd 46 (E k3 (B7 P N2 N6)) (E k3 (B5 P N2))) k3 (B8 P N2 N6) := fun _ _ _ _ _ _ _ => by kernel_rfl
def L6 (P : PT) (N2 : Y k1) : Y k3 := fun x7 x8 x9 x10 x11 H =>
  ∃ (I : Y k3) (μ : NTy k3 (AHeap → Nat)), I x7 x8 x9 x10 x11 H ∧ ∀ y7 y8 y9 y10 y11 G, I y7 y8 y9 y10 y11 G → B8 P N2 (fun z7 z8 z9 z10 z11 G' => I z7 z8 z9 z10 z11 G' ∧ μ z7 z8 z9 z10 z11 G' < μ y7 y8 y9 y10 y11 G) y7 y8 y9 y10 y11 G
theorem l6 P N2 : LQ k3 (L6 P N2) (B8 P N2) := fun ⟨_,_,_,_,_,_⟩ _ ⟨I, μ, h0, hI⟩ => ⟨apT _ I, apT _ μ, h0, fun ⟨_,_,_,_,_,_⟩ _ h => hI _ _ _ _ _ _  h⟩
def o9 := O 3912
def B9 (P : PT) (N2 : Y k1) : Y k1 := fun x7 x8 x9 H =>
  idxK x7 x9 1 (fun b1 o2 => ld1 H b1 o2 (fun v3 => lenK v3 (fun n4 => lenK x8 (fun n5 => L6 P N2 x7 x8 x9 (n4 : Int) (n5 : Int) H))))
theorem q9 P N2 : Q o9 (E k3 (L6 P N2)) k1 (B9 P N2) := fun _ _ _ _ _ => by kernel_rfl
def o10 := O 976
def B10 (P : PT) (N2 : Y k1) : Y k1 := fun x7 x8 x9 H =>
  lenK x7 (fun n1 => pif (decide ((x9 : Int) < (n1 : Int))) (B9 P N2 x7 x8 x9 H) (B1 P x8 H))
theorem q10 P N2 : Q o10 (cnd 26 (E k1 (B9 P N2)) (E k0 (B1 P))) k1 (B10 P N2) := fun _ _ _ _ _ => by kernel_rfl
def L2 (P : PT) : Y k1 := fun x7 x8 x9 H =>
  ∃ (I : Y k1) (μ : NTy k1 (AHeap → Nat)), I x7 x8 x9 H ∧ ∀ y7 y8 y9 G, I y7 y8 y9 G → B10 P (fun z7 z8 z9 G' => I z7 z8 z9 G' ∧ μ z7 z8 z9 G' < μ y7 y8 y9 G) y7 y8 y9 G
theorem l2 P : LQ k1 (L2 P) (B10 P) := fun ⟨_,_,_,_⟩ _ ⟨I, μ, h0, hI⟩ => ⟨apT _ I, apT _ μ, h0, fun ⟨_,_,_,_⟩ _ h => hI _ _ _ _  h⟩
abbrev k4 : Sk := [(7,.v),(8,.v)]
def o11 := O 60
def B11 (P : PT) : Y k4 := fun x7 x8 H =>
  L2 P x7 x8 0 H
theorem q11 P : Q o11 (E k1 (L2 P)) k4 (B11 P) := fun _ _ _ _ => by kernel_rfl
abbrev k5 : Sk := [(1,.v),(2,.x)]
def o12 := O 14
def B12 (P : PT) : Y k5 := fun x1 x2 H =>
  ldI .i64 H x2 0 (fun v1 => ld1 H x2 1 (fun v2 => AC Tryz.prog T0 106 [(Value.agg ⟨[(Value.int .i64 v1), v2]⟩), x1] H (fun v3 H4 => newK H4 [] 2 (fun b6 H7 => B11 P v3 (Value.slice (some ⟨b6, 0, none⟩) 0 (0 + 1)) H7))))
theorem q12 P : Q o12 (E k4 (B11 P)) k5 (B12 P) := fun _ _ _ _ => by kernel_rfl
abbrev k6 : Sk := [(6,J)]
def o13 := O 108
def B13 (P : PT) : Y k6 := fun x6 H =>
  P (Value.tuple ⟨[(Value.slice none 0 0), (Value.int .i64 x6)]⟩) H
theorem q13 P : Q o13 (ret P) k6 (B13 P) := fun _ _ _ => by kernel_rfl
abbrev k7 : Sk := [(1,.v),(2,.x),(6,J)]
def o14 := O 26
def B14 (P : PT) : Y k7 := fun x1 x2 x6 H =>
  pif ((x6 : Int) != 0) (B13 P x6 H) (B12 P x1 x2 H)
theorem q14 P : Q o14 (cnd 17 (E k6 (B13 P)) (E k5 (B12 P))) k7 (B14 P) := fun _ _ _ _ _ => by kernel_rfl
def o15 := O 12
def B15 (P : PT) : Y k5 := fun x1 x2 H =>
  ldI .i64 H x2 0 (fun v1 => ld1 H x2 1 (fun v2 => AC Tryz.prog T0 105 [(Value.agg ⟨[(Value.int .i64 v1), v2]⟩), x1] H (fun v3 H4 => asI .i64 v3 (fun v5 => B14 P x1 x2 v5 H4))))
theorem q15 P : Q o15 (E k7 (B14 P)) k5 (B15 P) := fun _ _ _ _ => by kernel_rfl
abbrev k8 : Sk := [(0,.g [.i,.v]),(1,.v)]
def o16 := O 2
def B16 (P : PT) : Y k8 := fun x0a x0b x1 H =>
  newK H [(Value.int .i64 x0a), x0b] 31 (fun b1 H2 => B15 P x1 b1 H2)
theorem q16 P : Q o16 (E k5 (B15 P)) k8 (B16 P) := fun _ _ _ _ _ => by kernel_rfl
def code : Code := (.seq (R 0 o16) (.seq (.seq (R 1 o15) (.seq (R 2 o14) (.cond (.tmp 17) (.seq (R 3 o13) .ret) .skip))) (.seq (R 4 o12) (.seq (.seq (R 5 o11) (.block 0 (.loop (.seq (.seq (R 6 o10) (.cond (.tmp 26) .skip (.exit 0))) (.seq (.block 1 (.seq (R 8 o9) (.seq (.block 2 (.loop (.seq (.seq (R 9 o8) (.cond (.tmp 46) .skip (.exit 2))) (.block 3 (R 10 o7))))) (.seq (R 11 o5) (R 12 o4))))) (R 7 o3)))))) (.seq (R 13 o1) .ret)))))
theorem body : Tryz.f45.body = some code := by kernel_rfl
theorem main (P : PT) : ∀ env H, (En 62 k8 (B16 P)) env H → AW Tryz.prog T0 code env H (M (ret P)) :=
  (r_seq (b (q16 P)) (r_seq (r_seq (b (q15 P)) (r_seq (b (q14 P)) (r_cond rfl (r_seq (b (q13 P)) r_ret) r_skip))) (r_seq (b (q12 P)) (r_seq (r_seq (b (q11 P)) (r_block (rL (l2 P) (fun N2 => (r_seq (r_seq (b (q10 P N2)) (r_cond rfl r_skip (r_exit (fun _ _ h => h)))) (r_seq (r_block (r_seq (b (q9 P N2)) (r_seq (r_block (rL (l6 P N2) (fun N6 => (r_seq (r_seq (b (q8 P N2 N6)) (r_cond rfl r_skip (r_exit (fun _ _ h => h)))) (r_block (b (q7 P N2 N6))))))) (r_seq (b (q5 P N2)) (b (q4 P N2)))))) (b (q3 P N2)))))))) (r_seq (b (q1 P)) r_ret)))))
theorem ac (P : PT) (x0a : Int) (x0b x1 : Value) (H : AHeap) (h : B16 P x0a x0b x1 H) : AC Tryz.prog T0 45 [(Value.agg ⟨[(Value.int .i64 x0a), x0b]⟩), x1] H P :=
  r_fn T0_ok (c := code) (n := 62) Tryz.func45 body (by kernel_rfl) (main P) (En_mk (x0a, x0b, x1, ()) (by kernel_rfl) ⟨by kernel_rfl, by kernel_rfl, trivial⟩ h)

end F45
namespace F46
abbrev E := En 8
abbrev Q := QB Tryz.prog T0 8
def O (k : Nat) := ob Tryz.f46 (pth k)
def ret (P : PT) : EP := retE T0 8 Tryz.f46 P
abbrev k0 : Sk := [(0,.v),(2,.x)]
def o1 := O 6
def B1 (P : PT) : Y k0 := fun x0 x2 H =>
  AC Tryz.prog T0 100 [x0] H (fun v1 H2 => tup2 v1 (fun v3 v4 => agg2 v3 (fun v5 v6 => asI .i64 v5 (fun v7 => stK H2 x2 0 [(Value.int .i64 v7), v6] (fun H10 => ldI .i64 H10 x2 0 (fun v11 => ld1 H10 x2 1 (fun v12 => P (Value.tuple ⟨[(Value.agg ⟨[(Value.int .i64 v11), v12]⟩), v4]⟩) H10)))))))
theorem q1 P : Q o1 (ret P) k0 (B1 P) := fun _ _ _ _ => by kernel_rfl
abbrev k1 : Sk := [(0,.v)]
def o2 := O 2
def B2 (P : PT) : Y k1 := fun x0 H =>
  newK H [(Value.int .i64 0), (Value.slice none 0 0)] 31 (fun b1 H2 => B1 P x0 b1 H2)
theorem q2 P : Q o2 (E k0 (B1 P)) k1 (B2 P) := fun _ _ _ => by kernel_rfl
def code : Code := (.seq (R 0 o2) (.seq (R 1 o1) .ret))
theorem body : Tryz.f46.body = some code := by kernel_rfl
theorem main (P : PT) : ∀ env H, (En 8 k1 (B2 P)) env H → AW Tryz.prog T0 code env H (M (ret P)) :=
  (r_seq (b (q2 P)) (r_seq (b (q1 P)) r_ret))
theorem ac (P : PT) (x0 : Value) (H : AHeap) (h : B2 P x0 H) : AC Tryz.prog T0 46 [x0] H P :=
  r_fn T0_ok (c := code) (n := 8) Tryz.func46 body (by kernel_rfl) (main P) (En_mk (x0, ()) (by kernel_rfl) ⟨by kernel_rfl, trivial⟩ h)

end F46
namespace F47
abbrev E := En 15
abbrev Q := QB Tryz.prog T0 15
def O (k : Nat) := ob Tryz.f47 (pth k)
def ret (P : PT) : EP := retE T0 15 Tryz.f47 P
abbrev k0 : Sk := [(1,.v),(2,.x)]
def o1 := O 14
def B1 (P : PT) : Y k0 := fun x1 x2 H =>
  ldI .i64 H x2 0 (fun v1 => ld1 H x2 1 (fun v2 => AC Tryz.prog T0 101 [(Value.agg ⟨[(Value.int .i64 v1), v2]⟩), x1] H (fun v3 H4 => asB v3 (fun v5 => P (Value.tuple ⟨[(Value.bool v5), (Value.int .i64 0)]⟩) H4))))
theorem q1 P : Q o1 (ret P) k0 (B1 P) := fun _ _ _ _ => by kernel_rfl
abbrev k1 : Sk := [(6,J)]
def o2 := O 108
def B2 (P : PT) : Y k1 := fun x6 H =>
  P (Value.tuple ⟨[(Value.bool false), (Value.int .i64 x6)]⟩) H
theorem q2 P : Q o2 (ret P) k1 (B2 P) := fun _ _ _ => by kernel_rfl
abbrev k2 : Sk := [(1,.v),(2,.x),(6,J)]
def o3 := O 26
def B3 (P : PT) : Y k2 := fun x1 x2 x6 H =>
  pif ((x6 : Int) != 0) (B2 P x6 H) (B1 P x1 x2 H)
theorem q3 P : Q o3 (cnd 10 (E k1 (B2 P)) (E k0 (B1 P))) k2 (B3 P) := fun _ _ _ _ _ => by kernel_rfl
def o4 := O 12
def B4 (P : PT) : Y k0 := fun x1 x2 H =>
  ldI .i64 H x2 0 (fun v1 => ld1 H x2 1 (fun v2 => AC Tryz.prog T0 55 [(Value.agg ⟨[(Value.int .i64 v1), v2]⟩), (Value.bool true)] H (fun v3 H4 => asI .i64 v3 (fun v5 => B3 P x1 x2 v5 H4))))
theorem q4 P : Q o4 (E k2 (B3 P)) k0 (B4 P) := fun _ _ _ _ => by kernel_rfl
abbrev k3 : Sk := [(0,.g [.i,.v]),(1,.v)]
def o5 := O 2
def B5 (P : PT) : Y k3 := fun x0a x0b x1 H =>
  newK H [(Value.int .i64 x0a), x0b] 31 (fun b1 H2 => B4 P x1 b1 H2)
theorem q5 P : Q o5 (E k0 (B4 P)) k3 (B5 P) := fun _ _ _ _ _ => by kernel_rfl
def code : Code := (.seq (R 0 o5) (.seq (.seq (R 1 o4) (.seq (R 2 o3) (.cond (.tmp 10) (.seq (R 3 o2) .ret) .skip))) (.seq (R 4 o1) .ret)))
theorem body : Tryz.f47.body = some code := by kernel_rfl
theorem main (P : PT) : ∀ env H, (En 15 k3 (B5 P)) env H → AW Tryz.prog T0 code env H (M (ret P)) :=
  (r_seq (b (q5 P)) (r_seq (r_seq (b (q4 P)) (r_seq (b (q3 P)) (r_cond rfl (r_seq (b (q2 P)) r_ret) r_skip))) (r_seq (b (q1 P)) r_ret)))
theorem ac (P : PT) (x0a : Int) (x0b x1 : Value) (H : AHeap) (h : B5 P x0a x0b x1 H) : AC Tryz.prog T0 47 [(Value.agg ⟨[(Value.int .i64 x0a), x0b]⟩), x1] H P :=
  r_fn T0_ok (c := code) (n := 15) Tryz.func47 body (by kernel_rfl) (main P) (En_mk (x0a, x0b, x1, ()) (by kernel_rfl) ⟨by kernel_rfl, by kernel_rfl, trivial⟩ h)

end F47
namespace F48
abbrev E := En 12
abbrev Q := QB Tryz.prog T0 12
def O (k : Nat) := ob Tryz.f48 (pth k)
def ret (P : PT) : EP := retE T0 12 Tryz.f48 P
abbrev k0 : Sk := [(1,.v),(2,.x)]
def o1 := O 14
def B1 (P : PT) : Y k0 := fun x1 x2 H =>
  ldI .i64 H x2 0 (fun v1 => ld1 H x2 1 (fun v2 => AC Tryz.prog T0 107 [(Value.agg ⟨[(Value.int .i64 v1), v2]⟩), x1] H (fun v3 H4 => asB v3 (fun v5 => P (Value.tuple ⟨[(Value.bool v5), (Value.int .i64 0)]⟩) H4))))
theorem q1 P : Q o1 (ret P) k0 (B1 P) := fun _ _ _ _ => by kernel_rfl
abbrev k1 : Sk := []
def o2 := O 52
def B2 (P : PT) : Y k1 := fun H =>
  P (Value.tuple ⟨[(Value.bool false), (Value.int .i64 1)]⟩) H
theorem q2 P : Q o2 (ret P) k1 (B2 P) := fun _ _ => by kernel_rfl
def o3 := O 12
def B3 (P : PT) : Y k0 := fun x1 x2 H =>
  ldI .i64 H x2 0 (fun v1 => ld1 H x2 1 (fun v2 => AC Tryz.prog T0 68 [(Value.agg ⟨[(Value.int .i64 v1), v2]⟩)] H (fun v3 H4 => asB v3 (fun v5 => pif (!v5) (B2 P H4) (B1 P x1 x2 H4)))))
theorem q3 P : Q o3 (cnd 8 (E k1 (B2 P)) (E k0 (B1 P))) k0 (B3 P) := fun _ _ _ _ => by kernel_rfl
abbrev k2 : Sk := [(0,.g [.i,.v]),(1,.v)]
def o4 := O 2
def B4 (P : PT) : Y k2 := fun x0a x0b x1 H =>
  newK H [(Value.int .i64 x0a), x0b] 31 (fun b1 H2 => B3 P x1 b1 H2)
theorem q4 P : Q o4 (E k0 (B3 P)) k2 (B4 P) := fun _ _ _ _ _ => by kernel_rfl
def code : Code := (.seq (R 0 o4) (.seq (.seq (R 1 o3) (.cond (.tmp 8) (.seq (R 2 o2) .ret) .skip)) (.seq (R 3 o1) .ret)))
theorem body : Tryz.f48.body = some code := by kernel_rfl
theorem main (P : PT) : ∀ env H, (En 12 k2 (B4 P)) env H → AW Tryz.prog T0 code env H (M (ret P)) :=
  (r_seq (b (q4 P)) (r_seq (r_seq (b (q3 P)) (r_cond rfl (r_seq (b (q2 P)) r_ret) r_skip)) (r_seq (b (q1 P)) r_ret)))
theorem ac (P : PT) (x0a : Int) (x0b x1 : Value) (H : AHeap) (h : B4 P x0a x0b x1 H) : AC Tryz.prog T0 48 [(Value.agg ⟨[(Value.int .i64 x0a), x0b]⟩), x1] H P :=
  r_fn T0_ok (c := code) (n := 12) Tryz.func48 body (by kernel_rfl) (main P) (En_mk (x0a, x0b, x1, ()) (by kernel_rfl) ⟨by kernel_rfl, by kernel_rfl, trivial⟩ h)

end F48
namespace F49
abbrev E := En 6
abbrev Q := QB Tryz.prog T0 6
def O (k : Nat) := ob Tryz.f49 (pth k)
def ret (P : PT) : EP := retE T0 6 Tryz.f49 P
abbrev k0 : Sk := [(0,.v),(2,.x)]
def o1 := O 6
def B1 (P : PT) : Y k0 := fun x0 x2 H =>
  AC Tryz.prog T0 78 [x0] H (fun v1 H2 => AC Tryz.prog T0 94 [v1] H2 (fun v4 H5 => agg2 v4 (fun v6 v7 => asI .i64 v6 (fun v8 => stK H5 x2 0 [(Value.int .i64 v8), v7] (fun H10 => ldI .i64 H10 x2 0 (fun v11 => ld1 H10 x2 1 (fun v12 => P (Value.agg ⟨[(Value.int .i64 v11), v12]⟩) H10)))))))
theorem q1 P : Q o1 (ret P) k0 (B1 P) := fun _ _ _ _ => by kernel_rfl
abbrev k1 : Sk := [(0,.v)]
def o2 := O 2
def B2 (P : PT) : Y k1 := fun x0 H =>
  newK H [(Value.int .i64 0), (Value.slice none 0 0)] 31 (fun b1 H2 => B1 P x0 b1 H2)
theorem q2 P : Q o2 (E k0 (B1 P)) k1 (B2 P) := fun _ _ _ => by kernel_rfl
def code : Code := (.seq (R 0 o2) (.seq (R 1 o1) .ret))
theorem body : Tryz.f49.body = some code := by kernel_rfl
theorem main (P : PT) : ∀ env H, (En 6 k1 (B2 P)) env H → AW Tryz.prog T0 code env H (M (ret P)) :=
  (r_seq (b (q2 P)) (r_seq (b (q1 P)) r_ret))
theorem ac (P : PT) (x0 : Value) (H : AHeap) (h : B2 P x0 H) : AC Tryz.prog T0 49 [x0] H P :=
  r_fn T0_ok (c := code) (n := 6) Tryz.func49 body (by kernel_rfl) (main P) (En_mk (x0, ()) (by kernel_rfl) ⟨by kernel_rfl, trivial⟩ h)

end F49
namespace F50
abbrev E := En 21
abbrev Q := QB Tryz.prog T0 21
def O (k : Nat) := ob Tryz.f50 (pth k)
def ret (P : PT) : EP := retE T0 21 Tryz.f50 P
abbrev k0 : Sk := [(5,.x),(6,.x)]
def o1 := O 62
def B1 (P : PT) : Y k0 := fun x5 x6 H =>
  ldI .u64 H x5 0 (fun v1 => ldI .u64 H x6 0 (fun v2 => AC Tryz.prog T0 80 [(Value.int .u64 (IntKind.u64.wrap (BitVec.ofInt 64 v1 &&& ~~~(BitVec.ofInt 64 v2)).toNat))] H (fun v3 H4 => P (Value.tuple ⟨[v3, (Value.int .i64 0)]⟩) H4)))
theorem q1 P : Q o1 (ret P) k0 (B1 P) := fun _ _ _ _ => by kernel_rfl
abbrev k1 : Sk := [(1,.x),(5,.x),(6,.x)]
def o2 := O 30
def B2 (P : PT) : Y k1 := fun x1 x5 x6 H =>
  ldI .i64 H x1 0 (fun v1 => ld1 H x1 1 (fun v2 => AC Tryz.prog T0 109 [(Value.agg ⟨[(Value.int .i64 v1), v2]⟩), (Value.func (.func 110) ⟨[]⟩ ⟨[(Value.pointer (some ⟨x5, 0, none⟩)), (Value.pointer (some ⟨x6, 0, none⟩))]⟩)] H (fun v3 H4 => asB v3 (fun v5 => B1 P x5 x6 H4))))
theorem q2 P : Q o2 (E k0 (B1 P)) k1 (B2 P) := fun _ _ _ _ _ => by kernel_rfl
abbrev k2 : Sk := [(1,.x)]
def o3 := O 14
def B3 (P : PT) : Y k2 := fun x1 H =>
  ldI .i64 H x1 0 (fun v1 => ld1 H x1 1 (fun v2 => AC Tryz.prog T0 108 [(Value.agg ⟨[(Value.int .i64 v1), v2]⟩)] H (fun v3 H4 => asI .u64 v3 (fun v5 => newK H4 [(Value.int .u64 0)] 83 (fun b6 H7 => newK H7 [(Value.int .u64 0)] 83 (fun b8 H9 => stK H9 b6 0 [(Value.int .u64 0)] (fun H10 => stK H10 b8 0 [(Value.int .u64 v5)] (fun H11 => B2 P x1 b6 b8 H11))))))))
theorem q3 P : Q o3 (E k1 (B2 P)) k2 (B3 P) := fun _ _ _ => by kernel_rfl
abbrev k3 : Sk := [(4,J)]
def o4 := O 108
def B4 (P : PT) : Y k3 := fun x4 H =>
  P (Value.tuple ⟨[(Value.slice none 0 0), (Value.int .i64 x4)]⟩) H
theorem q4 P : Q o4 (ret P) k3 (B4 P) := fun _ _ _ => by kernel_rfl
abbrev k4 : Sk := [(1,.x),(4,J)]
def o5 := O 26
def B5 (P : PT) : Y k4 := fun x1 x4 H =>
  pif ((x4 : Int) != 0) (B4 P x4 H) (B3 P x1 H)
theorem q5 P : Q o5 (cnd 10 (E k3 (B4 P)) (E k2 (B3 P))) k4 (B5 P) := fun _ _ _ _ => by kernel_rfl
def o6 := O 12
def B6 (P : PT) : Y k2 := fun x1 H =>
  ldI .i64 H x1 0 (fun v1 => ld1 H x1 1 (fun v2 => AC Tryz.prog T0 55 [(Value.agg ⟨[(Value.int .i64 v1), v2]⟩), (Value.bool true)] H (fun v3 H4 => asI .i64 v3 (fun v5 => B5 P x1 v5 H4))))
theorem q6 P : Q o6 (E k4 (B5 P)) k2 (B6 P) := fun _ _ _ => by kernel_rfl
abbrev k5 : Sk := [(0,.g [.i,.v])]
def o7 := O 2
def B7 (P : PT) : Y k5 := fun x0a x0b H =>
  newK H [(Value.int .i64 x0a), x0b] 31 (fun b1 H2 => B6 P b1 H2)
theorem q7 P : Q o7 (E k2 (B6 P)) k5 (B7 P) := fun _ _ _ _ => by kernel_rfl
def code : Code := (.seq (R 0 o7) (.seq (.seq (R 1 o6) (.seq (R 2 o5) (.cond (.tmp 10) (.seq (R 3 o4) .ret) .skip))) (.seq (R 4 o3) (.seq (R 5 o2) (.seq (R 6 o1) .ret)))))
theorem body : Tryz.f50.body = some code := by kernel_rfl
theorem main (P : PT) : ∀ env H, (En 21 k5 (B7 P)) env H → AW Tryz.prog T0 code env H (M (ret P)) :=
  (r_seq (b (q7 P)) (r_seq (r_seq (b (q6 P)) (r_seq (b (q5 P)) (r_cond rfl (r_seq (b (q4 P)) r_ret) r_skip))) (r_seq (b (q3 P)) (r_seq (b (q2 P)) (r_seq (b (q1 P)) r_ret)))))
theorem ac (P : PT) (x0a : Int) (x0b : Value) (H : AHeap) (h : B7 P x0a x0b H) : AC Tryz.prog T0 50 [(Value.agg ⟨[(Value.int .i64 x0a), x0b]⟩)] H P :=
  r_fn T0_ok (c := code) (n := 21) Tryz.func50 body (by kernel_rfl) (main P) (En_mk (x0a, x0b, ()) (by kernel_rfl) ⟨by kernel_rfl, trivial⟩ h)

end F50
namespace F51
abbrev E := En 37
abbrev Q := QB Tryz.prog T0 37
def O (k : Nat) := ob Tryz.f51 (pth k)
def ret (P : PT) : EP := retE T0 37 Tryz.f51 P
abbrev k0 : Sk := [(5,.v)]
def o1 := O 62
def B1 (P : PT) : Y k0 := fun x5 H =>
  P (Value.tuple ⟨[x5, (Value.int .i64 0)]⟩) H
theorem q1 P : Q o1 (ret P) k0 (B1 P) := fun _ _ _ => by kernel_rfl
abbrev k1 : Sk := [(1,.x),(4,.v),(5,.v),(6,J)]
def o3 := O 979
def B3 (P : PT) (N2 : Y k1) : Y k1 := fun x1 x4 x5 x6 H =>
  N2 x1 x4 x5 (IntKind.i64.wrap (x6 + 1)) H
theorem q3 P N2 : Q o3 (E k1 N2) k1 (B3 P N2) := fun _ _ _ _ _ _ => by kernel_rfl
def o4 := O 15654
def B4 (P : PT) (N2 : Y k1) : Y k1 := fun x1 x4 x5 x6 H =>
  newK H [(Value.int .i64 x6)] 2 (fun b1 H2 => apK T0 2 H2 x5 (Value.slice (some ⟨b1, 0, none⟩) 1 (1 + 1)) (fun v3 H4 => B3 P N2 x1 x4 v3 x6 H4))
theorem q4 P N2 : Q o4 (E k1 (B3 P N2)) k1 (B4 P N2) := fun _ _ _ _ _ _ => by kernel_rfl
abbrev k2 : Sk := [(1,.x),(4,.v),(5,.v),(6,J),(7,J)]
def o5 := O 7826
def B5 (P : PT) (N2 : Y k1) : Y k2 := fun x1 x4 x5 x6 x7 H =>
  pif (decide ((x7 : Int) > 0)) (lenK x4 (fun n1 => pif (decide ((x7 : Int) < (n1 : Int))) (B4 P N2 x1 x4 x5 x6 H) (B3 P N2 x1 x4 x5 x6 H))) (B3 P N2 x1 x4 x5 x6 H)
theorem q5 P N2 : Q o5 (cnd 31 (E k1 (B4 P N2)) (E k1 (B3 P N2))) k2 (B5 P N2) := fun _ _ _ _ _ _ _ => by kernel_rfl
def o6 := O 3912
def B6 (P : PT) (N2 : Y k1) : Y k1 := fun x1 x4 x5 x6 H =>
  AC Tryz.prog T0 99 [x4, (Value.int .i64 x6)] H (fun v1 H2 => asI .i64 v1 (fun v3 => B5 P N2 x1 x4 x5 x6 v3 H2))
theorem q6 P N2 : Q o6 (E k2 (B5 P N2)) k1 (B6 P N2) := fun _ _ _ _ _ _ => by kernel_rfl
def o7 := O 976
def B7 (P : PT) (N2 : Y k1) : Y k1 := fun x1 x4 x5 x6 H =>
  ld1 H x1 1 (fun v1 => lenK v1 (fun n2 => pif (decide ((x6 : Int) < (n2 : Int))) (B6 P N2 x1 x4 x5 x6 H) (B1 P x5 H)))
theorem q7 P N2 : Q o7 (cnd 18 (E k1 (B6 P N2)) (E k0 (B1 P))) k1 (B7 P N2) := fun _ _ _ _ _ _ => by kernel_rfl
def L2 (P : PT) : Y k1 := fun x1 x4 x5 x6 H =>
  ∃ (I : Y k1) (μ : NTy k1 (AHeap → Nat)), I x1 x4 x5 x6 H ∧ ∀ y1 y4 y5 y6 G, I y1 y4 y5 y6 G → B7 P (fun z1 z4 z5 z6 G' => I z1 z4 z5 z6 G' ∧ μ z1 z4 z5 z6 G' < μ y1 y4 y5 y6 G) y1 y4 y5 y6 G
theorem l2 P : LQ k1 (L2 P) (B7 P) := fun ⟨_,_,_,_,_⟩ _ ⟨I, μ, h0, hI⟩ => ⟨apT _ I, apT _ μ, h0, fun ⟨_,_,_,_,_⟩ _ h => hI _ _ _ _ _  h⟩
abbrev k3 : Sk := [(1,.x),(4,.v),(5,.v)]
def o8 := O 60
def B8 (P : PT) : Y k3 := fun x1 x4 x5 H =>
  L2 P x1 x4 x5 0 H
theorem q8 P : Q o8 (E k1 (L2 P)) k3 (B8 P) := fun _ _ _ _ _ => by kernel_rfl
abbrev k4 : Sk := [(1,.x)]
def o9 := O 14
def B9 (P : PT) : Y k4 := fun x1 H =>
  ldI .i64 H x1 0 (fun v1 => ld1 H x1 1 (fun v2 => AC Tryz.prog T0 98 [(Value.agg ⟨[(Value.int .i64 v1), v2]⟩)] H (fun v3 H4 => newK H4 [] 2 (fun b6 H7 => B8 P x1 v3 (Value.slice (some ⟨b6, 0, none⟩) 0 (0 + 1)) H7))))
theorem q9 P : Q o9 (E k3 (B8 P)) k4 (B9 P) := fun _ _ _ => by kernel_rfl
abbrev k5 : Sk := []
def o10 := O 52
def B10 (P : PT) : Y k5 := fun H =>
  P (Value.tuple ⟨[(Value.slice none 0 0), (Value.int .i64 1)]⟩) H
theorem q10 P : Q o10 (ret P) k5 (B10 P) := fun _ _ => by kernel_rfl
def o11 := O 12
def B11 (P : PT) : Y k4 := fun x1 H =>
  ldI .i64 H x1 0 (fun v1 => ld1 H x1 1 (fun v2 => AC Tryz.prog T0 68 [(Value.agg ⟨[(Value.int .i64 v1), v2]⟩)] H (fun v3 H4 => asB v3 (fun v5 => pif (!v5) (B10 P H4) (B9 P x1 H4)))))
theorem q11 P : Q o11 (cnd 10 (E k5 (B10 P)) (E k4 (B9 P))) k4 (B11 P) := fun _ _ _ => by kernel_rfl
abbrev k6 : Sk := [(0,.g [.i,.v])]
def o12 := O 2
def B12 (P : PT) : Y k6 := fun x0a x0b H =>
  newK H [(Value.int .i64 x0a), x0b] 31 (fun b1 H2 => B11 P b1 H2)
theorem q12 P : Q o12 (E k4 (B11 P)) k6 (B12 P) := fun _ _ _ _ => by kernel_rfl
def code : Code := (.seq (R 0 o12) (.seq (.seq (R 1 o11) (.cond (.tmp 10) (.seq (R 2 o10) .ret) .skip)) (.seq (R 3 o9) (.seq (.seq (R 4 o8) (.block 0 (.loop (.seq (.seq (R 5 o7) (.cond (.tmp 18) .skip (.exit 0))) (.seq (.block 1 (.seq (R 7 o6) (.seq (R 8 o5) (.cond (.tmp 31) (R 9 o4) .skip)))) (R 6 o3)))))) (.seq (R 10 o1) .ret)))))
theorem body : Tryz.f51.body = some code := by kernel_rfl
theorem main (P : PT) : ∀ env H, (En 37 k6 (B12 P)) env H → AW Tryz.prog T0 code env H (M (ret P)) :=
  (r_seq (b (q12 P)) (r_seq (r_seq (b (q11 P)) (r_cond rfl (r_seq (b (q10 P)) r_ret) r_skip)) (r_seq (b (q9 P)) (r_seq (r_seq (b (q8 P)) (r_block (rL (l2 P) (fun N2 => (r_seq (r_seq (b (q7 P N2)) (r_cond rfl r_skip (r_exit (fun _ _ h => h)))) (r_seq (r_block (r_seq (b (q6 P N2)) (r_seq (b (q5 P N2)) (r_cond rfl (b (q4 P N2)) r_skip)))) (b (q3 P N2)))))))) (r_seq (b (q1 P)) r_ret)))))
theorem ac (P : PT) (x0a : Int) (x0b : Value) (H : AHeap) (h : B12 P x0a x0b H) : AC Tryz.prog T0 51 [(Value.agg ⟨[(Value.int .i64 x0a), x0b]⟩)] H P :=
  r_fn T0_ok (c := code) (n := 37) Tryz.func51 body (by kernel_rfl) (main P) (En_mk (x0a, x0b, ()) (by kernel_rfl) ⟨by kernel_rfl, trivial⟩ h)

end F51
namespace F52
abbrev E := En 18
abbrev Q := QB Tryz.prog T0 18
def O (k : Nat) := ob Tryz.f52 (pth k)
def ret (P : PT) : EP := retE T0 18 Tryz.f52 P
abbrev k0 : Sk := [(3,J)]
def o1 := O 30
def B1 (P : PT) : Y k0 := fun x3 H =>
  P (Value.int .i64 x3) H
theorem q1 P : Q o1 (ret P) k0 (B1 P) := fun _ _ _ => by kernel_rfl
abbrev k1 : Sk := [(0,.v),(3,J),(4,J)]
def o3 := O 467
def B3 (P : PT) (N2 : Y k1) : Y k1 := fun x0 x3 x4 H =>
  N2 x0 x3 (IntKind.i64.wrap (x4 + 1)) H
theorem q3 P N2 : Q o3 (E k1 N2) k1 (B3 P N2) := fun _ _ _ _ _ => by kernel_rfl
def o4 := O 932
def B4 (P : PT) (N2 : Y k1) : Y k1 := fun x0 x3 x4 H =>
  idxK x0 x4 1 (fun b1 o2 => ldI .i64 H b1 o2 (fun v3 => B3 P N2 x0 (IntKind.i64.wrap (x3 + v3)) x4 H))
theorem q4 P N2 : Q o4 (E k1 (B3 P N2)) k1 (B4 P N2) := fun _ _ _ _ _ => by kernel_rfl
def o5 := O 464
def B5 (P : PT) (N2 : Y k1) : Y k1 := fun x0 x3 x4 H =>
  lenK x0 (fun n1 => pif (decide ((x4 : Int) < (n1 : Int))) (B4 P N2 x0 x3 x4 H) (B1 P x3 H))
theorem q5 P N2 : Q o5 (cnd 8 (E k1 (B4 P N2)) (E k0 (B1 P))) k1 (B5 P N2) := fun _ _ _ _ _ => by kernel_rfl
def L2 (P : PT) : Y k1 := fun x0 x3 x4 H =>
  ∃ (I : Y k1) (μ : NTy k1 (AHeap → Nat)), I x0 x3 x4 H ∧ ∀ y0 y3 y4 G, I y0 y3 y4 G → B5 P (fun z0 z3 z4 G' => I z0 z3 z4 G' ∧ μ z0 z3 z4 G' < μ y0 y3 y4 G) y0 y3 y4 G
theorem l2 P : LQ k1 (L2 P) (B5 P) := fun ⟨_,_,_,_⟩ _ ⟨I, μ, h0, hI⟩ => ⟨apT _ I, apT _ μ, h0, fun ⟨_,_,_,_⟩ _ h => hI _ _ _ _  h⟩
abbrev k2 : Sk := [(0,.v),(3,J)]
def o6 := O 28
def B6 (P : PT) : Y k2 := fun x0 x3 H =>
  L2 P x0 x3 0 H
theorem q6 P : Q o6 (E k1 (L2 P)) k2 (B6 P) := fun _ _ _ _ => by kernel_rfl
abbrev k3 : Sk := [(0,.v)]
def o7 := O 6
def B7 (P : PT) : Y k3 := fun x0 H =>
  B6 P x0 0 H
theorem q7 P : Q o7 (E k2 (B6 P)) k3 (B7 P) := fun _ _ _ => by kernel_rfl
def o8 := O 2
def B8 (P : PT) : Y k3 := fun x0 H =>
  B7 P x0 H
theorem q8 P : Q o8 (E k3 (B7 P)) k3 (B8 P) := fun _ _ _ => by kernel_rfl
def code : Code := (.seq (R 0 o8) (.seq (R 1 o7) (.seq (.seq (R 2 o6) (.block 0 (.loop (.seq (.seq (R 3 o5) (.cond (.tmp 8) .skip (.exit 0))) (.seq (.block 1 (R 5 o4)) (R 4 o3)))))) (.seq (R 6 o1) .ret))))
theorem body : Tryz.f52.body = some code := by kernel_rfl
theorem main (P : PT) : ∀ env H, (En 18 k3 (B8 P)) env H → AW Tryz.prog T0 code env H (M (ret P)) :=
  (r_seq (b (q8 P)) (r_seq (b (q7 P)) (r_seq (r_seq (b (q6 P)) (r_block (rL (l2 P) (fun N2 => (r_seq (r_seq (b (q5 P N2)) (r_cond rfl r_skip (r_exit (fun _ _ h => h)))) (r_seq (r_block (b (q4 P N2))) (b (q3 P N2)))))))) (r_seq (b (q1 P)) r_ret))))
theorem ac (P : PT) (x0 : Value) (H : AHeap) (h : B8 P x0 H) : AC Tryz.prog T0 52 [x0] H P :=
  r_fn T0_ok (c := code) (n := 18) Tryz.func52 body (by kernel_rfl) (main P) (En_mk (x0, ()) (by kernel_rfl) ⟨by kernel_rfl, trivial⟩ h)

end F52
namespace F53
abbrev E := En 18
abbrev Q := QB Tryz.prog T0 18
def O (k : Nat) := ob Tryz.f53 (pth k)
def ret (P : PT) : EP := retE T0 18 Tryz.f53 P
abbrev k0 : Sk := [(1,J),(2,.x)]
def o1 := O 14
def B1 (P : PT) : Y k0 := fun x1 x2 H =>
  ldI .i64 H x2 0 (fun v1 => ld1 H x2 1 (fun v2 => AC Tryz.prog T0 112 [(Value.agg ⟨[(Value.int .i64 v1), v2]⟩), (Value.int .i64 x1)] H (fun v3 H4 => P (Value.tuple ⟨[v3, (Value.int .i64 0)]⟩) H4)))
theorem q1 P : Q o1 (ret P) k0 (B1 P) := fun _ _ _ _ => by kernel_rfl
abbrev k1 : Sk := [(6,J)]
def o2 := O 108
def B2 (P : PT) : Y k1 := fun x6 H =>
  P (Value.tuple ⟨[(Value.slice none 0 0), (Value.int .i64 x6)]⟩) H
theorem q2 P : Q o2 (ret P) k1 (B2 P) := fun _ _ _ => by kernel_rfl
abbrev k2 : Sk := [(1,J),(2,.x),(6,J)]
def o3 := O 26
def B3 (P : PT) : Y k2 := fun x1 x2 x6 H =>
  pif ((x6 : Int) != 0) (B2 P x6 H) (B1 P x1 x2 H)
theorem q3 P : Q o3 (cnd 13 (E k1 (B2 P)) (E k0 (B1 P))) k2 (B3 P) := fun _ _ _ _ _ => by kernel_rfl
def o4 := O 12
def B4 (P : PT) : Y k0 := fun x1 x2 H =>
  ldI .i64 H x2 0 (fun v1 => ld1 H x2 1 (fun v2 => ldI .i64 H x2 0 (fun v3 => ld1 H x2 1 (fun v4 => AC Tryz.prog T0 111 [(Value.agg ⟨[(Value.int .i64 v3), v4]⟩), (Value.int .i64 x1)] H (fun v5 H6 => asB v5 (fun v7 => (AHeap.le H H6) ∧ (AC Tryz.prog T0 55 [(Value.agg ⟨[(Value.int .i64 v1), v2]⟩), (Value.bool v7)] H6 (fun v8 H9 => asI .i64 v8 (fun v10 => B3 P x1 x2 v10 H9)))))))))
theorem q4 (P : PT) : QD Tryz.prog T0 18 o4 [(0, false), (1, false), (2, false), (3, true), (4, false), (5, false)] (En 18 k2 (B3 P)) k0 (B4 P) := fun _ _ _ _  => by kernel_rfl
abbrev k3 : Sk := [(0,.g [.i,.v]),(1,J)]
def o5 := O 2
def B5 (P : PT) : Y k3 := fun x0a x0b x1 H =>
  newK H [(Value.int .i64 x0a), x0b] 31 (fun b1 H2 => B4 P x1 b1 H2)
theorem q5 P : Q o5 (E k0 (B4 P)) k3 (B5 P) := fun _ _ _ _ _ => by kernel_rfl
def code : Code := (.seq (R 0 o5) (.seq (.seq (.region 1 ⟨o4⟩ true) (.seq (R 2 o3) (.cond (.tmp 13) (.seq (R 3 o2) .ret) .skip))) (.seq (R 4 o1) .ret)))
theorem body : Tryz.f53.body = some code := by kernel_rfl
theorem main (P : PT) : ∀ env H, (En 18 k3 (B5 P)) env H → AW Tryz.prog T0 code env H (M (ret P)) :=
  (r_seq (b (q5 P)) (r_seq (r_seq (rD T0_ok mixed [(0, false), (1, false), (2, false), (3, true), (4, false), (5, false)] (by kernel_rfl) (q4 P)) (r_seq (b (q3 P)) (r_cond rfl (r_seq (b (q2 P)) r_ret) r_skip))) (r_seq (b (q1 P)) r_ret)))
theorem ac (P : PT) (x0a : Int) (x0b : Value) (x1 : Int) (H : AHeap) (h : B5 P x0a x0b x1 H) : AC Tryz.prog T0 53 [(Value.agg ⟨[(Value.int .i64 x0a), x0b]⟩), (Value.int .i64 x1)] H P :=
  r_fn T0_ok (c := code) (n := 18) Tryz.func53 body (by kernel_rfl) (main P) (En_mk (x0a, x0b, x1, ()) (by kernel_rfl) ⟨by kernel_rfl, by kernel_rfl, trivial⟩ h)

end F53
namespace F55
abbrev E := En 12
abbrev Q := QB Tryz.prog T0 12
def O (k : Nat) := ob Tryz.f55 (pth k)
def ret (P : PT) : EP := retE T0 12 Tryz.f55 P
abbrev k0 : Sk := []
def o1 := O 14
def B1 (P : PT) : Y k0 := fun H =>
  P (Value.int .i64 0) H
theorem q1 P : Q o1 (ret P) k0 (B1 P) := fun _ _ => by kernel_rfl
def o2 := O 100
def B2 (P : PT) : Y k0 := fun H =>
  P (Value.int .i64 1) H
theorem q2 P : Q o2 (ret P) k0 (B2 P) := fun _ _ => by kernel_rfl
def o3 := O 412
def B3 (P : PT) : Y k0 := fun H =>
  P (Value.int .i64 2) H
theorem q3 P : Q o3 (ret P) k0 (B3 P) := fun _ _ => by kernel_rfl
abbrev k1 : Sk := [(1,.b)]
def o4 := O 102
def B4 (P : PT) : Y k1 := fun x1 H =>
  pif (!x1) (B3 P H) (B1 P H)
theorem q4 P : Q o4 (cnd 9 (E k0 (B3 P)) (E k0 (B1 P))) k1 (B4 P) := fun _ _ _ => by kernel_rfl
abbrev k2 : Sk := [(1,.b),(2,.x)]
def o5 := O 24
def B5 (P : PT) : Y k2 := fun x1 x2 H =>
  ldI .i64 H x2 0 (fun v1 => ld1 H x2 1 (fun v2 => AC Tryz.prog T0 13 [(Value.agg ⟨[(Value.int .i64 v1), v2]⟩)] H (fun v3 H4 => asB v3 (fun v5 => pif (!v5) (B2 P H4) (B4 P x1 H4)))))
theorem q5 P : Q o5 (cnd 5 (E k0 (B2 P)) (E k1 (B4 P))) k2 (B5 P) := fun _ _ _ _ => by kernel_rfl
abbrev k3 : Sk := [(0,.g [.i,.v]),(1,.b)]
def o6 := O 2
def B6 (P : PT) : Y k3 := fun x0a x0b x1 H =>
  newK H [(Value.int .i64 x0a), x0b] 31 (fun b1 H2 => B5 P x1 b1 H2)
theorem q6 P : Q o6 (E k2 (B5 P)) k3 (B6 P) := fun _ _ _ _ _ => by kernel_rfl
def code : Code := (.seq (R 0 o6) (.seq (.block 0 (.seq (R 1 o5) (.cond (.tmp 5) (.seq (R 2 o2) .ret) (.seq (R 3 o4) (.cond (.tmp 9) (.seq (R 4 o3) .ret) .skip))))) (.seq (R 5 o1) .ret)))
theorem body : Tryz.f55.body = some code := by kernel_rfl
theorem main (P : PT) : ∀ env H, (En 12 k3 (B6 P)) env H → AW Tryz.prog T0 code env H (M (ret P)) :=
  (r_seq (b (q6 P)) (r_seq (r_block (r_seq (b (q5 P)) (r_cond rfl (r_seq (b (q2 P)) r_ret) (r_seq (b (q4 P)) (r_cond rfl (r_seq (b (q3 P)) r_ret) r_skip))))) (r_seq (b (q1 P)) r_ret)))
theorem ac (P : PT) (x0a : Int) (x0b : Value) (x1 : Bool) (H : AHeap) (h : B6 P x0a x0b x1 H) : AC Tryz.prog T0 55 [(Value.agg ⟨[(Value.int .i64 x0a), x0b]⟩), (Value.bool x1)] H P :=
  r_fn T0_ok (c := code) (n := 12) Tryz.func55 body (by kernel_rfl) (main P) (En_mk (x0a, x0b, x1, ()) (by kernel_rfl) ⟨by kernel_rfl, by kernel_rfl, trivial⟩ h)

end F55
namespace F56
abbrev E := En 11
abbrev Q := QB Tryz.prog T0 11
def O (k : Nat) := ob Tryz.f56 (pth k)
def ret (P : PT) : EP := retE T0 11 Tryz.f56 P
abbrev k0 : Sk := [(1,J),(2,.x)]
def o1 := O 6
def B1 (P : PT) : Y k0 := fun x1 x2 H =>
  ld1 H x2 1 (fun v1 => AC Tryz.prog T0 115 [v1] H (fun v2 H3 => asI .i64 v2 (fun v4 => AC Tryz.prog T0 114 [(Value.int .i64 x1), (Value.int .i64 0), (Value.int .i64 (IntKind.i64.wrap (v4 - 1)))] H3 (fun v5 H6 => asB v5 (fun v7 => P (Value.bool v7) H6)))))
theorem q1 P : Q o1 (ret P) k0 (B1 P) := fun _ _ _ _ => by kernel_rfl
abbrev k1 : Sk := [(0,.g [.i,.v]),(1,J)]
def o2 := O 2
def B2 (P : PT) : Y k1 := fun x0a x0b x1 H =>
  newK H [(Value.int .i64 x0a), x0b] 31 (fun b1 H2 => B1 P x1 b1 H2)
theorem q2 P : Q o2 (E k0 (B1 P)) k1 (B2 P) := fun _ _ _ _ _ => by kernel_rfl
def code : Code := (.seq (R 0 o2) (.seq (R 1 o1) .ret))
theorem body : Tryz.f56.body = some code := by kernel_rfl
theorem main (P : PT) : ∀ env H, (En 11 k1 (B2 P)) env H → AW Tryz.prog T0 code env H (M (ret P)) :=
  (r_seq (b (q2 P)) (r_seq (b (q1 P)) r_ret))
theorem ac (P : PT) (x0a : Int) (x0b : Value) (x1 : Int) (H : AHeap) (h : B2 P x0a x0b x1 H) : AC Tryz.prog T0 56 [(Value.agg ⟨[(Value.int .i64 x0a), x0b]⟩), (Value.int .i64 x1)] H P :=
  r_fn T0_ok (c := code) (n := 11) Tryz.func56 body (by kernel_rfl) (main P) (En_mk (x0a, x0b, x1, ()) (by kernel_rfl) ⟨by kernel_rfl, by kernel_rfl, trivial⟩ h)

end F56
namespace F60
abbrev E := En 9
abbrev Q := QB Tryz.prog T0 9
def O (k : Nat) := ob Tryz.f60 (pth k)
def ret (P : PT) : EP := retE T0 9 Tryz.f60 P
abbrev k0 : Sk := [(0,J),(1,.v),(4,.x)]
def o1 := O 6
def B1 (P : PT) : Y k0 := fun x0 x1 x4 H =>
  AC Tryz.prog T0 117 [x1] H (fun v1 H2 => pif (Value.oneCell' v1) (stK H2 x4 0 [(Value.int .i64 x0), v1] (fun H4 => ldI .i64 H4 x4 0 (fun v5 => ld1 H4 x4 1 (fun v6 => P (Value.agg ⟨[(Value.int .i64 v5), v6]⟩) H4)))) False)
theorem q1 P : Q o1 (ret P) k0 (B1 P) := fun _ _ _ _ _ => by kernel_rfl
abbrev k1 : Sk := [(0,J),(1,.v)]
def o2 := O 2
def B2 (P : PT) : Y k1 := fun x0 x1 H =>
  newK H [(Value.int .i64 0), (Value.slice none 0 0)] 31 (fun b1 H2 => B1 P x0 x1 b1 H2)
theorem q2 P : Q o2 (E k0 (B1 P)) k1 (B2 P) := fun _ _ _ _ => by kernel_rfl
def code : Code := (.seq (R 0 o2) (.seq (R 1 o1) .ret))
theorem body : Tryz.f60.body = some code := by kernel_rfl
theorem main (P : PT) : ∀ env H, (En 9 k1 (B2 P)) env H → AW Tryz.prog T0 code env H (M (ret P)) :=
  (r_seq (b (q2 P)) (r_seq (b (q1 P)) r_ret))
theorem ac (P : PT) (x0 : Int) (x1 : Value) (H : AHeap) (h : B2 P x0 x1 H) : AC Tryz.prog T0 60 [(Value.int .i64 x0), x1] H P :=
  r_fn T0_ok (c := code) (n := 9) Tryz.func60 body (by kernel_rfl) (main P) (En_mk (x0, x1, ()) (by kernel_rfl) ⟨by kernel_rfl, by kernel_rfl, trivial⟩ h)

end F60
namespace F61
abbrev E := En 20
abbrev Q := QB Tryz.prog T0 20
def O (k : Nat) := ob Tryz.f61 (pth k)
def ret (P : PT) : EP := retE T0 20 Tryz.f61 P
abbrev k0 : Sk := [(1,.v),(2,.x)]
def o1 := O 6
def B1 (P : PT) : Y k0 := fun x1 x2 H =>
  ldI .i64 H x2 0 (fun v1 => AC Tryz.prog T0 118 [(Value.int .i64 v1)] H (fun v2 H3 => asB v2 (fun v4 => pif v4 (ldI .i64 H3 x2 0 (fun v5 => AC Tryz.prog T0 115 [x1] H3 (fun v6 H7 => asI .i64 v6 (fun v8 => (AHeap.le H3 H7) ∧ (pif ((v8 : Int) == (IntKind.i64.wrap (Int.tdiv (IntKind.i64.wrap (3 * v5)) 2))) (AC Tryz.prog T0 62 [x1, (Value.func (.func 119) ⟨[]⟩ ⟨[(Value.pointer (some ⟨x2, 0, none⟩))]⟩)] H7 (fun v9 H10 => asB v9 (fun v11 => P (Value.bool v11) H10))) (P (Value.bool false) H7)))))) (P (Value.bool false) H3))))
theorem q1 (P : PT) : QD Tryz.prog T0 20 o1 [(0, false), (1, false), (2, false), (3, false), (5, false), (6, false), (7, false), (4, true), (8, false), (9, false), (10, false), (11, false), (12, false), (13, false), (14, false), (15, false)] (ret P) k0 (B1 P) := fun _ _ _ _  => by kernel_rfl
abbrev k1 : Sk := [(0,J),(1,.v)]
def o2 := O 2
def B2 (P : PT) : Y k1 := fun x0 x1 H =>
  newK H [(Value.int .i64 x0)] 2 (fun b1 H2 => B1 P x1 b1 H2)
theorem q2 P : Q o2 (E k0 (B1 P)) k1 (B2 P) := fun _ _ _ _ => by kernel_rfl
def code : Code := (.seq (R 0 o2) (.seq (.region 1 ⟨o1⟩ true) .ret))
theorem body : Tryz.f61.body = some code := by kernel_rfl
theorem main (P : PT) : ∀ env H, (En 20 k1 (B2 P)) env H → AW Tryz.prog T0 code env H (M (ret P)) :=
  (r_seq (b (q2 P)) (r_seq (rD T0_ok mixed [(0, false), (1, false), (2, false), (3, false), (5, false), (6, false), (7, false), (4, true), (8, false), (9, false), (10, false), (11, false), (12, false), (13, false), (14, false), (15, false)] (by kernel_rfl) (q1 P)) r_ret))
theorem ac (P : PT) (x0 : Int) (x1 : Value) (H : AHeap) (h : B2 P x0 x1 H) : AC Tryz.prog T0 61 [(Value.int .i64 x0), x1] H P :=
  r_fn T0_ok (c := code) (n := 20) Tryz.func61 body (by kernel_rfl) (main P) (En_mk (x0, x1, ()) (by kernel_rfl) ⟨by kernel_rfl, by kernel_rfl, trivial⟩ h)

end F61
namespace F62
abbrev E := En 9
abbrev Q := QB Tryz.prog T0 9
def O (k : Nat) := ob Tryz.f62 (pth k)
def ret (P : PT) : EP := retE T0 9 Tryz.f62 P
abbrev k0 : Sk := [(0,.v),(3,.x)]
def o1 := O 6
def B1 (P : PT) : Y k0 := fun x0 x3 H =>
  AC Tryz.prog T0 120 [x0, (Value.func (.func 121) ⟨[]⟩ ⟨[(Value.pointer (some ⟨x3, 0, none⟩))]⟩)] H (fun v1 H2 => asB v1 (fun v3 => P (Value.bool (!v3)) H2))
theorem q1 P : Q o1 (ret P) k0 (B1 P) := fun _ _ _ _ => by kernel_rfl
abbrev k1 : Sk := [(0,.v),(1,.v)]
def o2 := O 2
def B2 (P : PT) : Y k1 := fun x0 x1 H =>
  pif (Value.oneCell' x1) (newK H [x1] 77 (fun b1 H2 => B1 P x0 b1 H2)) False
theorem q2 P : Q o2 (E k0 (B1 P)) k1 (B2 P) := fun _ _ _ _ => by kernel_rfl
def code : Code := (.seq (R 0 o2) (.seq (R 1 o1) .ret))
theorem body : Tryz.f62.body = some code := by kernel_rfl
theorem main (P : PT) : ∀ env H, (En 9 k1 (B2 P)) env H → AW Tryz.prog T0 code env H (M (ret P)) :=
  (r_seq (b (q2 P)) (r_seq (b (q1 P)) r_ret))
theorem ac (P : PT) (x0 x1 : Value) (H : AHeap) (h : B2 P x0 x1 H) : AC Tryz.prog T0 62 [x0, x1] H P :=
  r_fn T0_ok (c := code) (n := 9) Tryz.func62 body (by kernel_rfl) (main P) (En_mk (x0, x1, ()) (by kernel_rfl) ⟨by kernel_rfl, by kernel_rfl, trivial⟩ h)

end F62
namespace F63
abbrev E := En 8
abbrev Q := QB Tryz.prog T0 8
def O (k : Nat) := ob Tryz.f63 (pth k)
def ret (P : PT) : EP := retE T0 8 Tryz.f63 P
abbrev k0 : Sk := [(1,.x)]
def o1 := O 6
def B1 (P : PT) : Y k0 := fun x1 H =>
  ldI .i64 H x1 0 (fun v1 => ldI .i64 H x1 1 (fun v2 => P (Value.bool (decide ((v1 : Int) < v2))) H))
theorem q1 P : Q o1 (ret P) k0 (B1 P) := fun _ _ _ => by kernel_rfl
abbrev k1 : Sk := [(0,.g [.i,.i])]
def o2 := O 2
def B2 (P : PT) : Y k1 := fun x0a x0b H =>
  newK H [(Value.int .i64 x0a), (Value.int .i64 x0b)] 28 (fun b1 H2 => B1 P b1 H2)
theorem q2 P : Q o2 (E k0 (B1 P)) k1 (B2 P) := fun _ _ _ _ => by kernel_rfl
def code : Code := (.seq (R 0 o2) (.seq (R 1 o1) .ret))
theorem body : Tryz.f63.body = some code := by kernel_rfl
theorem main (P : PT) : ∀ env H, (En 8 k1 (B2 P)) env H → AW Tryz.prog T0 code env H (M (ret P)) :=
  (r_seq (b (q2 P)) (r_seq (b (q1 P)) r_ret))
theorem ac (P : PT) (x0a x0b : Int) (H : AHeap) (h : B2 P x0a x0b H) : AC Tryz.prog T0 63 [(Value.agg ⟨[(Value.int .i64 x0a), (Value.int .i64 x0b)]⟩)] H P :=
  r_fn T0_ok (c := code) (n := 8) Tryz.func63 body (by kernel_rfl) (main P) (En_mk (x0a, x0b, ()) (by kernel_rfl) ⟨by kernel_rfl, trivial⟩ h)

end F63
namespace F64
abbrev E := En 25
abbrev Q := QB Tryz.prog T0 25
def O (k : Nat) := ob Tryz.f64 (pth k)
def ret (P : PT) : EP := retE T0 25 Tryz.f64 P
abbrev k0 : Sk := []
def o1 := O 14
def B1 (P : PT) : Y k0 := fun H =>
  P (Value.bool true) H
theorem q1 P : Q o1 (ret P) k0 (B1 P) := fun _ _ => by kernel_rfl
abbrev k1 : Sk := [(0,.v),(1,.v),(5,J)]
def o3 := O 211
def B3 (P : PT) (N2 : Y k1) : Y k1 := fun x0 x1 x5 H =>
  N2 x0 x1 (IntKind.i64.wrap (x5 - 1)) H
theorem q3 P N2 : Q o3 (E k1 N2) k1 (B3 P N2) := fun _ _ _ _ _ => by kernel_rfl
def o4 := O 3364
def B4 (P : PT) (N2 : Y k1) : Y k0 := fun H =>
  P (Value.bool false) H
theorem q4 P N2 : Q o4 (ret P) k0 (B4 P N2) := fun _ _ => by kernel_rfl
def o5 := O 840
def B5 (P : PT) (N2 : Y k1) : Y k1 := fun x0 x1 x5 H =>
  idxK x0 x5 2 (fun b1 o2 => ldI .i64 H b1 o2 (fun v3 => ldI .i64 H b1 (o2 + 1) (fun v4 => idxK x0 (IntKind.i64.wrap (x5 - 1)) 2 (fun b5 o6 => ldI .i64 H b5 o6 (fun v7 => ldI .i64 H b5 (o6 + 1) (fun v8 => callV Tryz.prog T0 x1 [(Value.agg ⟨[(Value.int .i64 v3), (Value.int .i64 v4)]⟩), (Value.agg ⟨[(Value.int .i64 v7), (Value.int .i64 v8)]⟩)] H (fun v9 H10 => asI .i64 v9 (fun v11 => pif (decide ((v11 : Int) < 0)) (B4 P N2 H10) (B3 P N2 x0 x1 x5 H10)))))))))
theorem q5 (P : PT) (N2 : Y k1) : QD Tryz.prog T0 25 o5 [(0, false), (1, false), (2, false), (3, false), (4, false), (5, false), (6, false), (7, false), (8, false), (9, false), (10, false), (11, false)] (cnd 24 (En 25 k0 (B4 P N2)) (En 25 k1 (B3 P N2))) k1 (B5 P N2) := fun _ _ _ _ _  => by kernel_rfl
def o6 := O 208
def B6 (P : PT) (N2 : Y k1) : Y k1 := fun x0 x1 x5 H =>
  pif (decide ((x5 : Int) > 0)) (B5 P N2 x0 x1 x5 H) (B1 P H)
theorem q6 P N2 : Q o6 (cnd 10 (E k1 (B5 P N2)) (E k0 (B1 P))) k1 (B6 P N2) := fun _ _ _ _ _ => by kernel_rfl
def L2 (P : PT) : Y k1 := fun x0 x1 x5 H =>
  ∃ (I : Y k1) (μ : NTy k1 (AHeap → Nat)), I x0 x1 x5 H ∧ ∀ y0 y1 y5 G, I y0 y1 y5 G → B6 P (fun z0 z1 z5 G' => I z0 z1 z5 G' ∧ μ z0 z1 z5 G' < μ y0 y1 y5 G) y0 y1 y5 G
theorem l2 P : LQ k1 (L2 P) (B6 P) := fun ⟨_,_,_,_⟩ _ ⟨I, μ, h0, hI⟩ => ⟨apT _ I, apT _ μ, h0, fun ⟨_,_,_,_⟩ _ h => hI _ _ _ _  h⟩
abbrev k2 : Sk := [(0,.v),(1,.v)]
def o7 := O 12
def B7 (P : PT) : Y k2 := fun x0 x1 H =>
  lenK x0 (fun n1 => L2 P x0 x1 (IntKind.i64.wrap ((n1 : Int) - 1)) H)
theorem q7 P : Q o7 (E k1 (L2 P)) k2 (B7 P) := fun _ _ _ _ => by kernel_rfl
def o8 := O 2
def B8 (P : PT) : Y k2 := fun x0 x1 H =>
  B7 P x0 x1 H
theorem q8 P : Q o8 (E k2 (B7 P)) k2 (B8 P) := fun _ _ _ _ => by kernel_rfl
def code : Code := (.seq (R 0 o8) (.seq (.seq (R 1 o7) (.block 0 (.loop (.seq (.seq (R 2 o6) (.cond (.tmp 10) .skip (.exit 0))) (.seq (.block 1 (.seq (.region 4 ⟨o5⟩ true) (.cond (.tmp 24) (.seq (R 5 o4) .ret) .skip))) (R 3 o3)))))) (.seq (R 6 o1) .ret)))
theorem body : Tryz.f64.body = some code := by kernel_rfl
theorem main (P : PT) : ∀ env H, (En 25 k2 (B8 P)) env H → AW Tryz.prog T0 code env H (M (ret P)) :=
  (r_seq (b (q8 P)) (r_seq (r_seq (b (q7 P)) (r_block (rL (l2 P) (fun N2 => (r_seq (r_seq (b (q6 P N2)) (r_cond rfl r_skip (r_exit (fun _ _ h => h)))) (r_seq (r_block (r_seq (rD T0_ok mixed [(0, false), (1, false), (2, false), (3, false), (4, false), (5, false), (6, false), (7, false), (8, false), (9, false), (10, false), (11, false)] (by kernel_rfl) (q5 P N2)) (r_cond rfl (r_seq (b (q4 P N2)) r_ret) r_skip))) (b (q3 P N2)))))))) (r_seq (b (q1 P)) r_ret)))
theorem ac (P : PT) (x0 x1 : Value) (H : AHeap) (h : B8 P x0 x1 H) : AC Tryz.prog T0 64 [x0, x1] H P :=
  r_fn T0_ok (c := code) (n := 25) Tryz.func64 body (by kernel_rfl) (main P) (En_mk (x0, x1, ()) (by kernel_rfl) ⟨by kernel_rfl, by kernel_rfl, trivial⟩ h)

end F64
namespace F65
abbrev E := En 8
abbrev Q := QB Tryz.prog T0 8
def O (k : Nat) := ob Tryz.f65 (pth k)
def ret (P : PT) : EP := retE T0 8 Tryz.f65 P
abbrev k0 : Sk := [(2,.x),(3,.x)]
def o1 := O 6
def B1 (P : PT) : Y k0 := fun x2 x3 H =>
  AC Tryz.prog T0 122 [(Value.slice (some ⟨x2, 0, none⟩) 2 (2 + 1)), (Value.slice (some ⟨x3, 0, none⟩) 2 (2 + 1))] H (fun v1 H2 => asI .i64 v1 (fun v3 => P (Value.int .i64 v3) H2))
theorem q1 (P : PT) : QD Tryz.prog T0 8 o1 [(0, false), (1, false), (2, false), (3, false)] (ret P) k0 (B1 P) := fun _ _ _ _  => by kernel_rfl
abbrev k1 : Sk := [(0,.g [.i,.i]),(1,.g [.i,.i])]
def o2 := O 2
def B2 (P : PT) : Y k1 := fun x0a x0b x1a x1b H =>
  newK H [(Value.int .i64 x0a), (Value.int .i64 x0b)] 28 (fun b1 H2 => newK H2 [(Value.int .i64 x1a), (Value.int .i64 x1b)] 28 (fun b3 H4 => B1 P b1 b3 H4))
theorem q2 P : Q o2 (E k0 (B1 P)) k1 (B2 P) := fun _ _ _ _ _ _ => by kernel_rfl
def code : Code := (.seq (R 0 o2) (.seq (.region 1 ⟨o1⟩ true) .ret))
theorem body : Tryz.f65.body = some code := by kernel_rfl
theorem main (P : PT) : ∀ env H, (En 8 k1 (B2 P)) env H → AW Tryz.prog T0 code env H (M (ret P)) :=
  (r_seq (b (q2 P)) (r_seq (rD T0_ok mixed [(0, false), (1, false), (2, false), (3, false)] (by kernel_rfl) (q1 P)) r_ret))
theorem ac (P : PT) (x0a x0b x1a x1b : Int) (H : AHeap) (h : B2 P x0a x0b x1a x1b H) : AC Tryz.prog T0 65 [(Value.agg ⟨[(Value.int .i64 x0a), (Value.int .i64 x0b)]⟩), (Value.agg ⟨[(Value.int .i64 x1a), (Value.int .i64 x1b)]⟩)] H P :=
  r_fn T0_ok (c := code) (n := 8) Tryz.func65 body (by kernel_rfl) (main P) (En_mk (x0a, x0b, x1a, x1b, ()) (by kernel_rfl) ⟨by kernel_rfl, by kernel_rfl, trivial⟩ h)

end F65
namespace F66
abbrev E := En 33
abbrev Q := QB Tryz.prog T0 33
def O (k : Nat) := ob Tryz.f66 (pth k)
def ret (P : PT) : EP := retE T0 33 Tryz.f66 P
abbrev k0 : Sk := [(5,.v)]
def o1 := O 30
def B1 (P : PT) : Y k0 := fun x5 H =>
  AC Tryz.prog T0 123 [x5, (Value.func (.func 124) ⟨[]⟩ ⟨[]⟩)] H (fun v1 H2 => asB v1 (fun v3 => P (Value.bool v3) H2))
theorem q1 P : Q o1 (ret P) k0 (B1 P) := fun _ _ _ => by kernel_rfl
abbrev k1 : Sk := [(5,.v),(10,.v),(11,J),(12,J)]
def o3 := O 935
def B3 (P : PT) (N2 : Y k1) : Y k1 := fun x5 x10 x11 x12 H =>
  N2 x5 x10 x11 (IntKind.i64.wrap (x12 + 1)) H
theorem q3 P N2 : Q o3 (E k1 N2) k1 (B3 P N2) := fun _ _ _ _ _ _ => by kernel_rfl
abbrev k2 : Sk := [(5,.v),(7,.x),(10,.v),(11,J),(12,J)]
def o4 := O 7475
def B4 (P : PT) (N2 : Y k1) : Y k2 := fun x5 x7 x10 x11 x12 H =>
  ldI .i64 H x7 1 (fun v1 => idxK x5 v1 1 (fun b2 o3 => ldI .i64 H b2 o3 (fun v4 => idxK x5 v1 1 (fun b5 o6 => stK H b5 o6 [(Value.int .i64 (IntKind.i64.wrap (v4 + 1)))] (fun H7 => B3 P N2 x5 x10 x11 x12 H7)))))
theorem q4 P N2 : Q o4 (E k1 (B3 P N2)) k2 (B4 P N2) := fun _ _ _ _ _ _ _ => by kernel_rfl
def o5 := O 7474
def B5 (P : PT) (N2 : Y k1) : Y k2 := fun x5 x7 x10 x11 x12 H =>
  ldI .i64 H x7 0 (fun v1 => idxK x5 v1 1 (fun b2 o3 => ldI .i64 H b2 o3 (fun v4 => idxK x5 v1 1 (fun b5 o6 => stK H b5 o6 [(Value.int .i64 (IntKind.i64.wrap (v4 + 1)))] (fun H7 => B4 P N2 x5 x7 x10 x11 x12 H7)))))
theorem q5 P N2 : Q o5 (E k2 (B4 P N2)) k2 (B5 P N2) := fun _ _ _ _ _ _ _ => by kernel_rfl
def o6 := O 3736
def B6 (P : PT) (N2 : Y k1) : Y k1 := fun x5 x10 x11 x12 H =>
  idxK x10 x12 2 (fun b1 o2 => ldI .i64 H b1 o2 (fun v3 => ldI .i64 H b1 (o2 + 1) (fun v4 => newK H [(Value.int .i64 0), (Value.int .i64 0)] 28 (fun b5 H6 => stK H6 b5 0 [(Value.int .i64 v3), (Value.int .i64 v4)] (fun H7 => B5 P N2 x5 b5 x10 x11 x12 H7)))))
theorem q6 P N2 : Q o6 (E k2 (B5 P N2)) k1 (B6 P N2) := fun _ _ _ _ _ _ => by kernel_rfl
def o7 := O 232
def B7 (P : PT) (N2 : Y k1) : Y k1 := fun x5 x10 x11 x12 H =>
  pif (decide ((x12 : Int) < x11)) (B6 P N2 x5 x10 x11 x12 H) (B1 P x5 H)
theorem q7 P N2 : Q o7 (cnd 13 (E k1 (B6 P N2)) (E k0 (B1 P))) k1 (B7 P N2) := fun _ _ _ _ _ _ => by kernel_rfl
def L2 (P : PT) : Y k1 := fun x5 x10 x11 x12 H =>
  ∃ (I : Y k1) (μ : NTy k1 (AHeap → Nat)), I x5 x10 x11 x12 H ∧ ∀ y5 y10 y11 y12 G, I y5 y10 y11 y12 G → B7 P (fun z5 z10 z11 z12 G' => I z5 z10 z11 z12 G' ∧ μ z5 z10 z11 z12 G' < μ y5 y10 y11 y12 G) y5 y10 y11 y12 G
theorem l2 P : LQ k1 (L2 P) (B7 P) := fun ⟨_,_,_,_,_⟩ _ ⟨I, μ, h0, hI⟩ => ⟨apT _ I, apT _ μ, h0, fun ⟨_,_,_,_,_⟩ _ h => hI _ _ _ _ _  h⟩
abbrev k3 : Sk := [(1,.v),(5,.v)]
def o8 := O 28
def B8 (P : PT) : Y k3 := fun x1 x5 H =>
  lenK x1 (fun n1 => L2 P x5 x1 (n1 : Int) 0 H)
theorem q8 P : Q o8 (E k1 (L2 P)) k3 (B8 P) := fun _ _ _ _ => by kernel_rfl
abbrev k4 : Sk := [(0,J),(1,.v)]
def o9 := O 6
def B9 (P : PT) : Y k4 := fun x0 x1 H =>
  mkR H 8 3 [(Value.int .i64 0)] x0 x0 (fun v2 H1 => B8 P x1 v2 H1)
theorem q9 P : Q o9 (E k3 (B8 P)) k4 (B9 P) := fun _ _ _ _ => by kernel_rfl
def o10 := O 2
def B10 (P : PT) : Y k4 := fun x0 x1 H =>
  B9 P x0 x1 H
theorem q10 P : Q o10 (E k4 (B9 P)) k4 (B10 P) := fun _ _ _ _ => by kernel_rfl
def code : Code := (.seq (R 0 o10) (.seq (R 1 o9) (.seq (.seq (R 2 o8) (.block 0 (.loop (.seq (R 3 o7) (.seq (.cond (.tmp 13) .skip (.exit 0)) (.seq (.block 1 (.seq (R 4 o6) (.seq (R 5 o5) (R 6 o4)))) (R 7 o3))))))) (.seq (R 8 o1) .ret))))
theorem body : Tryz.f66.body = some code := by kernel_rfl
theorem main (P : PT) : ∀ env H, (En 33 k4 (B10 P)) env H → AW Tryz.prog T0 code env H (M (ret P)) :=
  (r_seq (b (q10 P)) (r_seq (b (q9 P)) (r_seq (r_seq (b (q8 P)) (r_block (rL (l2 P) (fun N2 => (r_seq (b (q7 P N2)) (r_seq (r_cond rfl r_skip (r_exit (fun _ _ h => h))) (r_seq (r_block (r_seq (b (q6 P N2)) (r_seq (b (q5 P N2)) (b (q4 P N2))))) (b (q3 P N2))))))))) (r_seq (b (q1 P)) r_ret))))
theorem ac (P : PT) (x0 : Int) (x1 : Value) (H : AHeap) (h : B10 P x0 x1 H) : AC Tryz.prog T0 66 [(Value.int .i64 x0), x1] H P :=
  r_fn T0_ok (c := code) (n := 33) Tryz.func66 body (by kernel_rfl) (main P) (En_mk (x0, x1, ()) (by kernel_rfl) ⟨by kernel_rfl, by kernel_rfl, trivial⟩ h)

end F66
namespace F68
abbrev E := En 56
abbrev Q := QB Tryz.prog T0 56
def O (k : Nat) := ob Tryz.f68 (pth k)
def ret (P : PT) : EP := retE T0 56 Tryz.f68 P
abbrev k0 : Sk := []
def o1 := O 30
def B1 (P : PT) : Y k0 := fun H =>
  P (Value.bool true) H
theorem q1 P : Q o1 (ret P) k0 (B1 P) := fun _ _ => by kernel_rfl
abbrev k1 : Sk := [(1,.x),(3,J)]
def o3 := O 467
def B3 (P : PT) (N2 : Y k1) : Y k1 := fun x1 x3 H =>
  N2 x1 (IntKind.i64.wrap (x3 + 1)) H
theorem q3 P N2 : Q o3 (E k1 N2) k1 (B3 P N2) := fun _ _ _ _ => by kernel_rfl
def o4 := O 7460
def B4 (P : PT) (N2 : Y k1) : Y k0 := fun H =>
  P (Value.bool false) H
theorem q4 P N2 : Q o4 (ret P) k0 (B4 P N2) := fun _ _ => by kernel_rfl
def o5 := O 1864
def B5 (P : PT) (N2 : Y k1) : Y k1 := fun x1 x3 H =>
  ld1 H x1 1 (fun v1 => idxK v1 x3 2 (fun b2 o3 => ldI .i64 H b2 o3 (fun v4 => ld1 H x1 1 (fun v5 => idxK v5 x3 2 (fun b6 o7 => ldI .i64 H b6 (o7 + 1) (fun v8 => pif (decide ((v4 : Int) > v8)) (B4 P N2 H) (pif (decide ((x3 : Int) > 0)) (ld1 H x1 1 (fun v9 => idxK v9 x3 2 (fun b10 o11 => ldI .i64 H b10 o11 (fun v12 => ldI .i64 H b10 (o11 + 1) (fun v13 => ld1 H x1 1 (fun v14 => idxK v14 (IntKind.i64.wrap (x3 - 1)) 2 (fun b15 o16 => ldI .i64 H b15 o16 (fun v17 => ldI .i64 H b15 (o16 + 1) (fun v18 => AC Tryz.prog T0 131 [(Value.agg ⟨[(Value.int .i64 v12), (Value.int .i64 v13)]⟩), (Value.agg ⟨[(Value.int .i64 v17), (Value.int .i64 v18)]⟩)] H (fun v19 H20 => asB v19 (fun v21 => pif v21 (B4 P N2 H20) (B3 P N2 x1 x3 H20)))))))))))) (B3 P N2 x1 x3 H))))))))
theorem q5 (P : PT) (N2 : Y k1) : QD Tryz.prog T0 56 o5 [(0, false), (1, false), (2, false), (3, false), (4, false), (5, false), (6, false), (7, false), (8, false), (9, false), (10, false), (11, false), (12, false), (13, false), (14, false), (15, false), (16, false), (17, false), (18, false), (19, false), (20, false), (21, false), (22, false), (23, false), (24, false), (25, false), (26, false), (27, false), (28, false), (29, false), (30, false)] (cnd 55 (En 56 k0 (B4 P N2)) (En 56 k1 (B3 P N2))) k1 (B5 P N2) := fun _ _ _ _  => by kernel_rfl
def o6 := O 464
def B6 (P : PT) (N2 : Y k1) : Y k1 := fun x1 x3 H =>
  ld1 H x1 1 (fun v1 => lenK v1 (fun n2 => pif (decide ((x3 : Int) < (n2 : Int))) (B5 P N2 x1 x3 H) (B1 P H)))
theorem q6 P N2 : Q o6 (cnd 22 (E k1 (B5 P N2)) (E k0 (B1 P))) k1 (B6 P N2) := fun _ _ _ _ => by kernel_rfl
def L2 (P : PT) : Y k1 := fun x1 x3 H =>
  ∃ (I : Y k1) (μ : NTy k1 (AHeap → Nat)), I x1 x3 H ∧ ∀ y1 y3 G, I y1 y3 G → B6 P (fun z1 z3 G' => I z1 z3 G' ∧ μ z1 z3 G' < μ y1 y3 G) y1 y3 G
theorem l2 P : LQ k1 (L2 P) (B6 P) := fun ⟨_,_,_⟩ _ ⟨I, μ, h0, hI⟩ => ⟨apT _ I, apT _ μ, h0, fun ⟨_,_,_⟩ _ h => hI _ _ _  h⟩
abbrev k2 : Sk := [(1,.x)]
def o7 := O 28
def B7 (P : PT) : Y k2 := fun x1 H =>
  L2 P x1 0 H
theorem q7 P : Q o7 (E k1 (L2 P)) k2 (B7 P) := fun _ _ _ => by kernel_rfl
def o8 := O 52
def B8 (P : PT) : Y k0 := fun H =>
  P (Value.bool false) H
theorem q8 P : Q o8 (ret P) k0 (B8 P) := fun _ _ => by kernel_rfl
def o9 := O 12
def B9 (P : PT) : Y k2 := fun x1 H =>
  ldI .i64 H x1 0 (fun v1 => ld1 H x1 1 (fun v2 => AC Tryz.prog T0 129 [(Value.int .i64 v1), v2] H (fun v3 H4 => asI .i64 v3 (fun v5 => pif ((v5 : Int) != 0) (B8 P H4) (ldI .i64 H4 x1 0 (fun v6 => ld1 H4 x1 1 (fun v7 => AC Tryz.prog T0 130 [(Value.int .i64 v6), v7] H4 (fun v8 H9 => asB v8 (fun v10 => pif (!v10) (B8 P H9) (B7 P x1 H9))))))))))
theorem q9 P : Q o9 (cnd 17 (E k0 (B8 P)) (E k2 (B7 P))) k2 (B9 P) := fun _ _ _ => by kernel_rfl
abbrev k3 : Sk := [(0,.g [.i,.v])]
def o10 := O 2
def B10 (P : PT) : Y k3 := fun x0a x0b H =>
  newK H [(Value.int .i64 x0a), x0b] 31 (fun b1 H2 => B9 P b1 H2)
theorem q10 P : Q o10 (E k2 (B9 P)) k3 (B10 P) := fun _ _ _ _ => by kernel_rfl
def code : Code := (.seq (R 0 o10) (.seq (.seq (R 1 o9) (.cond (.tmp 17) (.seq (R 2 o8) .ret) .skip)) (.seq (.seq (R 3 o7) (.block 0 (.loop (.seq (.seq (R 4 o6) (.cond (.tmp 22) .skip (.exit 0))) (.seq (.block 1 (.seq (.region 6 ⟨o5⟩ true) (.cond (.tmp 55) (.seq (R 7 o4) .ret) .skip))) (R 5 o3)))))) (.seq (R 8 o1) .ret))))
theorem body : Tryz.f68.body = some code := by kernel_rfl
theorem main (P : PT) : ∀ env H, (En 56 k3 (B10 P)) env H → AW Tryz.prog T0 code env H (M (ret P)) :=
  (r_seq (b (q10 P)) (r_seq (r_seq (b (q9 P)) (r_cond rfl (r_seq (b (q8 P)) r_ret) r_skip)) (r_seq (r_seq (b (q7 P)) (r_block (rL (l2 P) (fun N2 => (r_seq (r_seq (b (q6 P N2)) (r_cond rfl r_skip (r_exit (fun _ _ h => h)))) (r_seq (r_block (r_seq (rD T0_ok mixed [(0, false), (1, false), (2, false), (3, false), (4, false), (5, false), (6, false), (7, false), (8, false), (9, false), (10, false), (11, false), (12, false), (13, false), (14, false), (15, false), (16, false), (17, false), (18, false), (19, false), (20, false), (21, false), (22, false), (23, false), (24, false), (25, false), (26, false), (27, false), (28, false), (29, false), (30, false)] (by kernel_rfl) (q5 P N2)) (r_cond rfl (r_seq (b (q4 P N2)) r_ret) r_skip))) (b (q3 P N2)))))))) (r_seq (b (q1 P)) r_ret))))
theorem ac (P : PT) (x0a : Int) (x0b : Value) (H : AHeap) (h : B10 P x0a x0b H) : AC Tryz.prog T0 68 [(Value.agg ⟨[(Value.int .i64 x0a), x0b]⟩)] H P :=
  r_fn T0_ok (c := code) (n := 56) Tryz.func68 body (by kernel_rfl) (main P) (En_mk (x0a, x0b, ()) (by kernel_rfl) ⟨by kernel_rfl, trivial⟩ h)

end F68
namespace F74
abbrev E := En 5
abbrev Q := QB Tryz.prog T0 5
def O (k : Nat) := ob Tryz.f74 (pth k)
def ret (P : PT) : EP := retE T0 5 Tryz.f74 P
abbrev k0 : Sk := [(0,.i .u64)]
def o1 := O 6
def B1 (P : PT) : Y k0 := fun x0 H =>
  AC Tryz.prog T0 139 [(Value.int .u64 x0)] H (fun v1 H2 => asI .i64 v1 (fun v3 => P (Value.int .i64 v3) H2))
theorem q1 P : Q o1 (ret P) k0 (B1 P) := fun _ _ _ => by kernel_rfl
def o2 := O 2
def B2 (P : PT) : Y k0 := fun x0 H =>
  B1 P x0 H
theorem q2 P : Q o2 (E k0 (B1 P)) k0 (B2 P) := fun _ _ _ => by kernel_rfl
def code : Code := (.seq (R 0 o2) (.seq (R 1 o1) .ret))
theorem body : Tryz.f74.body = some code := by kernel_rfl
theorem main (P : PT) : ∀ env H, (En 5 k0 (B2 P)) env H → AW Tryz.prog T0 code env H (M (ret P)) :=
  (r_seq (b (q2 P)) (r_seq (b (q1 P)) r_ret))
theorem ac (P : PT) (x0 : Int) (H : AHeap) (h : B2 P x0 H) : AC Tryz.prog T0 74 [(Value.int .u64 x0)] H P :=
  r_fn T0_ok (c := code) (n := 5) Tryz.func74 body (by kernel_rfl) (main P) (En_mk (x0, ()) (by kernel_rfl) ⟨by kernel_rfl, trivial⟩ h)

end F74
namespace F75
abbrev E := En 10
abbrev Q := QB Tryz.prog T0 10
def O (k : Nat) := ob Tryz.f75 (pth k)
def ret (P : PT) : EP := retE T0 10 Tryz.f75 P
abbrev k0 : Sk := [(5,.x)]
def o1 := O 30
def B1 (P : PT) : Y k0 := fun x5 H =>
  ldI .i64 H x5 0 (fun v1 => P (Value.int .i64 v1) H)
theorem q1 P : Q o1 (ret P) k0 (B1 P) := fun _ _ _ => by kernel_rfl
abbrev k1 : Sk := [(2,.x),(3,.x),(5,.x)]
def o2 := O 14
def B2 (P : PT) : Y k1 := fun x2 x3 x5 H =>
  ldI .i64 H x2 0 (fun v1 => ld1 H x2 1 (fun v2 => AC Tryz.prog T0 109 [(Value.agg ⟨[(Value.int .i64 v1), v2]⟩), (Value.func (.func 140) ⟨[]⟩ ⟨[(Value.pointer (some ⟨x3, 0, none⟩)), (Value.pointer (some ⟨x5, 0, none⟩))]⟩)] H (fun v3 H4 => asB v3 (fun v5 => B1 P x5 H4))))
theorem q2 P : Q o2 (E k0 (B1 P)) k1 (B2 P) := fun _ _ _ _ _ => by kernel_rfl
abbrev k2 : Sk := [(2,.x),(3,.x)]
def o3 := O 6
def B3 (P : PT) : Y k2 := fun x2 x3 H =>
  newK H [(Value.int .i64 0)] 2 (fun b1 H2 => B2 P x2 x3 b1 H2)
theorem q3 P : Q o3 (E k1 (B2 P)) k2 (B3 P) := fun _ _ _ _ => by kernel_rfl
abbrev k3 : Sk := [(0,.g [.i,.v]),(1,.i .u64)]
def o4 := O 2
def B4 (P : PT) : Y k3 := fun x0a x0b x1 H =>
  newK H [(Value.int .i64 x0a), x0b] 31 (fun b1 H2 => newK H2 [(Value.int .u64 x1)] 83 (fun b3 H4 => B3 P b1 b3 H4))
theorem q4 P : Q o4 (E k2 (B3 P)) k3 (B4 P) := fun _ _ _ _ _ => by kernel_rfl
def code : Code := (.seq (R 0 o4) (.seq (R 1 o3) (.seq (R 2 o2) (.seq (R 3 o1) .ret))))
theorem body : Tryz.f75.body = some code := by kernel_rfl
theorem main (P : PT) : ∀ env H, (En 10 k3 (B4 P)) env H → AW Tryz.prog T0 code env H (M (ret P)) :=
  (r_seq (b (q4 P)) (r_seq (b (q3 P)) (r_seq (b (q2 P)) (r_seq (b (q1 P)) r_ret))))
theorem ac (P : PT) (x0a : Int) (x0b : Value) (x1 : Int) (H : AHeap) (h : B4 P x0a x0b x1 H) : AC Tryz.prog T0 75 [(Value.agg ⟨[(Value.int .i64 x0a), x0b]⟩), (Value.int .u64 x1)] H P :=
  r_fn T0_ok (c := code) (n := 10) Tryz.func75 body (by kernel_rfl) (main P) (En_mk (x0a, x0b, x1, ()) (by kernel_rfl) ⟨by kernel_rfl, by kernel_rfl, trivial⟩ h)

end F75
namespace F78
abbrev E := En 38
abbrev Q := QB Tryz.prog T0 38
def O (k : Nat) := ob Tryz.f78 (pth k)
def ret (P : PT) : EP := retE T0 38 Tryz.f78 P
abbrev k0 : Sk := [(3,.v)]
def o1 := O 30
def B1 (P : PT) : Y k0 := fun x3 H =>
  P x3 H
theorem q1 P : Q o1 (ret P) k0 (B1 P) := fun _ _ _ => by kernel_rfl
abbrev k1 : Sk := [(0,.v),(3,.v),(4,J)]
def o3 := O 467
def B3 (P : PT) (N2 : Y k1) : Y k1 := fun x0 x3 x4 H =>
  N2 x0 x3 (IntKind.i64.wrap (x4 + 1)) H
theorem q3 P N2 : Q o3 (E k1 N2) k1 (B3 P N2) := fun _ _ _ _ _ => by kernel_rfl
def o4 := O 932
def B4 (P : PT) (N2 : Y k1) : Y k1 := fun x0 x3 x4 H =>
  nilK x3 (fun v1 => asP v1 (fun b2 o3 => ldI .u64 H b2 (o3 + 2) (fun v4 => idxK x0 x4 1 (fun b5 o6 => ldI .u8 H b5 o6 (fun v7 => nilK x3 (fun v8 => asP v8 (fun b9 o10 => stK H b9 (o10 + 2) [(Value.int .u64 (IntKind.u64.wrap ((IntKind.u64.wrap ((IntKind.u64.wrap (v4 * 1099511628211)) + (IntKind.u64.wrap v7))) + 151)))] (fun H11 => B3 P N2 x0 x3 x4 H11))))))))
theorem q4 (P : PT) (N2 : Y k1) : QD Tryz.prog T0 38 o4 [(0, false), (1, false), (2, false), (3, false), (4, false), (5, false), (6, false), (7, false), (8, false), (9, false), (10, false), (11, false), (12, false), (13, false), (14, false), (15, false)] (En 38 k1 (B3 P N2)) k1 (B4 P N2) := fun _ _ _ _ _  => by kernel_rfl
def o5 := O 464
def B5 (P : PT) (N2 : Y k1) : Y k1 := fun x0 x3 x4 H =>
  lenK x0 (fun n1 => pif (decide ((x4 : Int) < (n1 : Int))) (pif (decide ((x4 : Int) < 4096)) (B4 P N2 x0 x3 x4 H) (B1 P x3 H)) (B1 P x3 H))
theorem q5 P N2 : Q o5 (cnd 19 (E k1 (B4 P N2)) (E k0 (B1 P))) k1 (B5 P N2) := fun _ _ _ _ _ => by kernel_rfl
def L2 (P : PT) : Y k1 := fun x0 x3 x4 H =>
  ∃ (I : Y k1) (μ : NTy k1 (AHeap → Nat)), I x0 x3 x4 H ∧ ∀ y0 y3 y4 G, I y0 y3 y4 G → B5 P (fun z0 z3 z4 G' => I z0 z3 z4 G' ∧ μ z0 z3 z4 G' < μ y0 y3 y4 G) y0 y3 y4 G
theorem l2 P : LQ k1 (L2 P) (B5 P) := fun ⟨_,_,_,_⟩ _ ⟨I, μ, h0, hI⟩ => ⟨apT _ I, apT _ μ, h0, fun ⟨_,_,_,_⟩ _ h => hI _ _ _ _  h⟩
abbrev k2 : Sk := [(0,.v),(3,.v)]
def o6 := O 28
def B6 (P : PT) : Y k2 := fun x0 x3 H =>
  L2 P x0 x3 0 H
theorem q6 P : Q o6 (E k1 (L2 P)) k2 (B6 P) := fun _ _ _ _ => by kernel_rfl
abbrev k3 : Sk := [(0,.v)]
def o7 := O 6
def B7 (P : PT) : Y k3 := fun x0 H =>
  lenK x0 (fun n1 => pif (Value.oneCell' x0) (newK H [x0, (Value.int .i64 0), (Value.int .u64 (IntKind.u64.wrap (13291 + (IntKind.u64.wrap (n1 : Int)))))] 140 (fun b2 H3 => B6 P x0 (Value.pointer (some ⟨b2, 0, none⟩)) H3)) False)
theorem q7 P : Q o7 (E k2 (B6 P)) k3 (B7 P) := fun _ _ _ => by kernel_rfl
def o8 := O 2
def B8 (P : PT) : Y k3 := fun x0 H =>
  B7 P x0 H
theorem q8 P : Q o8 (E k3 (B7 P)) k3 (B8 P) := fun _ _ _ => by kernel_rfl
def code : Code := (.seq (R 0 o8) (.seq (R 1 o7) (.seq (.seq (R 2 o6) (.block 0 (.loop (.seq (.seq (R 3 o5) (.cond (.tmp 19) .skip (.exit 0))) (.seq (.block 1 (.region 5 ⟨o4⟩ true)) (R 4 o3)))))) (.seq (R 6 o1) .ret))))
theorem body : Tryz.f78.body = some code := by kernel_rfl
theorem main (P : PT) : ∀ env H, (En 38 k3 (B8 P)) env H → AW Tryz.prog T0 code env H (M (ret P)) :=
  (r_seq (b (q8 P)) (r_seq (b (q7 P)) (r_seq (r_seq (b (q6 P)) (r_block (rL (l2 P) (fun N2 => (r_seq (r_seq (b (q5 P N2)) (r_cond rfl r_skip (r_exit (fun _ _ h => h)))) (r_seq (r_block (rD T0_ok mixed [(0, false), (1, false), (2, false), (3, false), (4, false), (5, false), (6, false), (7, false), (8, false), (9, false), (10, false), (11, false), (12, false), (13, false), (14, false), (15, false)] (by kernel_rfl) (q4 P N2))) (b (q3 P N2)))))))) (r_seq (b (q1 P)) r_ret))))
theorem ac (P : PT) (x0 : Value) (H : AHeap) (h : B8 P x0 H) : AC Tryz.prog T0 78 [x0] H P :=
  r_fn T0_ok (c := code) (n := 38) Tryz.func78 body (by kernel_rfl) (main P) (En_mk (x0, ()) (by kernel_rfl) ⟨by kernel_rfl, trivial⟩ h)

end F78
namespace F80
abbrev E := En 19
abbrev Q := QB Tryz.prog T0 19
def O (k : Nat) := ob Tryz.f80 (pth k)
def ret (P : PT) : EP := retE T0 19 Tryz.f80 P
abbrev k0 : Sk := [(3,.v)]
def o1 := O 30
def B1 (P : PT) : Y k0 := fun x3 H =>
  P x3 H
theorem q1 P : Q o1 (ret P) k0 (B1 P) := fun _ _ _ => by kernel_rfl
abbrev k1 : Sk := [(0,.i .u64),(3,.v),(4,J)]
def o3 := O 467
def B3 (P : PT) (N2 : Y k1) : Y k1 := fun x0 x3 x4 H =>
  N2 x0 x3 (IntKind.i64.wrap (x4 + 1)) H
theorem q3 P N2 : Q o3 (E k1 N2) k1 (B3 P N2) := fun _ _ _ _ _ => by kernel_rfl
def o4 := O 3730
def B4 (P : PT) (N2 : Y k1) : Y k1 := fun x0 x3 x4 H =>
  newK H [(Value.int .i64 x4)] 2 (fun b1 H2 => apK T0 2 H2 x3 (Value.slice (some ⟨b1, 0, none⟩) 1 (1 + 1)) (fun v3 H4 => B3 P N2 x0 v3 x4 H4))
theorem q4 P N2 : Q o4 (E k1 (B3 P N2)) k1 (B4 P N2) := fun _ _ _ _ _ => by kernel_rfl
def o5 := O 1864
def B5 (P : PT) (N2 : Y k1) : Y k1 := fun x0 x3 x4 H =>
  AC Tryz.prog T0 144 [(Value.int .u64 x0), (Value.int .i64 x4)] H (fun v1 H2 => asB v1 (fun v3 => pif v3 (B4 P N2 x0 x3 x4 H2) (B3 P N2 x0 x3 x4 H2)))
theorem q5 P N2 : Q o5 (cnd 13 (E k1 (B4 P N2)) (E k1 (B3 P N2))) k1 (B5 P N2) := fun _ _ _ _ _ => by kernel_rfl
def o6 := O 464
def B6 (P : PT) (N2 : Y k1) : Y k1 := fun x0 x3 x4 H =>
  ((0 : Int) ≤ x4) ∧ (pif ((Int.fdiv x0 (2 ^ (min (Int.toNat x4) 64)) : Int) != 0) (B5 P N2 x0 x3 x4 H) (B1 P x3 H))
theorem q6 P N2 : Q o6 (cnd 8 (E k1 (B5 P N2)) (E k0 (B1 P))) k1 (B6 P N2) := fun _ _ _ _ _ => by kernel_rfl
def L2 (P : PT) : Y k1 := fun x0 x3 x4 H =>
  ∃ (I : Y k1) (μ : NTy k1 (AHeap → Nat)), I x0 x3 x4 H ∧ ∀ y0 y3 y4 G, I y0 y3 y4 G → B6 P (fun z0 z3 z4 G' => I z0 z3 z4 G' ∧ μ z0 z3 z4 G' < μ y0 y3 y4 G) y0 y3 y4 G
theorem l2 P : LQ k1 (L2 P) (B6 P) := fun ⟨_,_,_,_⟩ _ ⟨I, μ, h0, hI⟩ => ⟨apT _ I, apT _ μ, h0, fun ⟨_,_,_,_⟩ _ h => hI _ _ _ _  h⟩
abbrev k2 : Sk := [(0,.i .u64),(3,.v)]
def o7 := O 28
def B7 (P : PT) : Y k2 := fun x0 x3 H =>
  L2 P x0 x3 0 H
theorem q7 P : Q o7 (E k1 (L2 P)) k2 (B7 P) := fun _ _ _ _ => by kernel_rfl
abbrev k3 : Sk := [(0,.i .u64)]
def o8 := O 6
def B8 (P : PT) : Y k3 := fun x0 H =>
  B7 P x0 (Value.slice none 0 0) H
theorem q8 P : Q o8 (E k2 (B7 P)) k3 (B8 P) := fun _ _ _ => by kernel_rfl
def o9 := O 2
def B9 (P : PT) : Y k3 := fun x0 H =>
  B8 P x0 H
theorem q9 P : Q o9 (E k3 (B8 P)) k3 (B9 P) := fun _ _ _ => by kernel_rfl
def code : Code := (.seq (R 0 o9) (.seq (R 1 o8) (.seq (.seq (R 2 o7) (.block 0 (.loop (.seq (.seq (R 3 o6) (.cond (.tmp 8) .skip (.exit 0))) (.seq (.block 1 (.seq (R 5 o5) (.cond (.tmp 13) (R 6 o4) .skip))) (R 4 o3)))))) (.seq (R 7 o1) .ret))))
theorem body : Tryz.f80.body = some code := by kernel_rfl
theorem main (P : PT) : ∀ env H, (En 19 k3 (B9 P)) env H → AW Tryz.prog T0 code env H (M (ret P)) :=
  (r_seq (b (q9 P)) (r_seq (b (q8 P)) (r_seq (r_seq (b (q7 P)) (r_block (rL (l2 P) (fun N2 => (r_seq (r_seq (b (q6 P N2)) (r_cond rfl r_skip (r_exit (fun _ _ h => h)))) (r_seq (r_block (r_seq (b (q5 P N2)) (r_cond rfl (b (q4 P N2)) r_skip))) (b (q3 P N2)))))))) (r_seq (b (q1 P)) r_ret))))
theorem ac (P : PT) (x0 : Int) (H : AHeap) (h : B9 P x0 H) : AC Tryz.prog T0 80 [(Value.int .u64 x0)] H P :=
  r_fn T0_ok (c := code) (n := 19) Tryz.func80 body (by kernel_rfl) (main P) (En_mk (x0, ()) (by kernel_rfl) ⟨by kernel_rfl, trivial⟩ h)

end F80
namespace F88
abbrev E := En 58
abbrev Q := QB Tryz.prog T0 58
def O (k : Nat) := ob Tryz.f88 (pth k)
def ret (P : PT) : EP := retE T0 58 Tryz.f88 P
abbrev k0 : Sk := [(1,J),(5,J)]
def o1 := O 126
def B1 (P : PT) : Y k0 := fun x1 x5 H =>
  nzK x1 (P (Value.int .i64 (Int.tmod x5 x1)) H)
theorem q1 P : Q o1 (ret P) k0 (B1 P) := fun _ _ _ _ => by kernel_rfl
abbrev k1 : Sk := [(0,.v),(1,J),(5,J)]
def o2 := O 501
def B2 (P : PT) : Y k1 := fun x0 x1 x5 H =>
  nilK x0 (fun v1 => asP v1 (fun b2 o3 => ldI .i64 H b2 (o3 + 1) (fun v4 => nilK x0 (fun v5 => asP v5 (fun b6 o7 => stK H b6 (o7 + 1) [(Value.int .i64 (IntKind.i64.wrap (v4 + 1)))] (fun H8 => B1 P x1 x5 H8))))))
theorem q2 P : Q o2 (E k0 (B1 P)) k1 (B2 P) := fun _ _ _ _ _ => by kernel_rfl
def o3 := O 500
def B3 (P : PT) : Y k1 := fun x0 x1 x5 H =>
  nilK x0 (fun v1 => asP v1 (fun b2 o3 => ld1 H b2 o3 (fun v4 => nilK x0 (fun v5 => asP v5 (fun b6 o7 => ldI .i64 H b6 (o7 + 1) (fun v8 => idxK v4 v8 1 (fun b9 o10 => ldI .u8 H b9 o10 (fun v11 => B2 P x0 x1 (IntKind.i64.wrap (x5 + (IntKind.i64.wrap v11))) H))))))))
theorem q3 (P : PT) : QD Tryz.prog T0 58 o3 [(0, false), (1, false), (2, false), (3, false), (4, false), (5, false), (6, false), (7, false), (8, false), (9, false), (10, false), (11, false), (12, false), (13, false)] (En 58 k1 (B2 P)) k1 (B3 P) := fun _ _ _ _ _  => by kernel_rfl
def o4 := O 124
def B4 (P : PT) : Y k1 := fun x0 x1 x5 H =>
  nilK x0 (fun v1 => asP v1 (fun b2 o3 => ldI .i64 H b2 (o3 + 1) (fun v4 => nilK x0 (fun v5 => asP v5 (fun b6 o7 => ld1 H b6 o7 (fun v8 => lenK v8 (fun n9 => pif (decide ((v4 : Int) < (n9 : Int))) (B3 P x0 x1 x5 H) (B1 P x1 x5 H))))))))
theorem q4 (P : PT) : QD Tryz.prog T0 58 o4 [(0, false), (1, false), (2, false), (3, false), (4, false), (5, false), (6, false), (7, false), (8, false), (9, false)] (cnd 33 (En 58 k1 (B3 P)) (En 58 k0 (B1 P))) k1 (B4 P) := fun _ _ _ _ _  => by kernel_rfl
abbrev k2 : Sk := [(0,.v),(1,J)]
def o5 := O 30
def B5 (P : PT) : Y k2 := fun x0 x1 H =>
  nilK x0 (fun v1 => asP v1 (fun b2 o3 => ldI .u64 H b2 (o3 + 2) (fun v4 => ((0 : Int) ≤ 33) ∧ (B4 P x0 x1 (IntKind.i64.wrap (IntKind.u64.wrap (BitVec.ofInt 64 (Int.fdiv v4 (2 ^ (min (Int.toNat 33) 64))) &&& BitVec.ofInt 64 16777215).toNat)) H))))
theorem q5 P : Q o5 (E k1 (B4 P)) k2 (B5 P) := fun _ _ _ _ => by kernel_rfl
def o6 := O 14
def B6 (P : PT) : Y k2 := fun x0 x1 H =>
  nilK x0 (fun v1 => asP v1 (fun b2 o3 => ldI .u64 H b2 (o3 + 2) (fun v4 => nilK x0 (fun v5 => asP v5 (fun b6 o7 => stK H b6 (o7 + 2) [(Value.int .u64 (IntKind.u64.wrap ((IntKind.u64.wrap (v4 * 6364136223846793005)) + 1442695040888963407)))] (fun H8 => B5 P x0 x1 H8))))))
theorem q6 P : Q o6 (E k2 (B5 P)) k2 (B6 P) := fun _ _ _ _ => by kernel_rfl
abbrev k3 : Sk := []
def o7 := O 52
def B7 (P : PT) : Y k3 := fun H =>
  P (Value.int .i64 0) H
theorem q7 P : Q o7 (ret P) k3 (B7 P) := fun _ _ => by kernel_rfl
def o8 := O 12
def B8 (P : PT) : Y k2 := fun x0 x1 H =>
  pif (decide ((x1 : Int) < 1)) (B7 P H) (B6 P x0 x1 H)
theorem q8 P : Q o8 (cnd 7 (E k3 (B7 P)) (E k2 (B6 P))) k2 (B8 P) := fun _ _ _ _ => by kernel_rfl
def o9 := O 2
def B9 (P : PT) : Y k2 := fun x0 x1 H =>
  B8 P x0 x1 H
theorem q9 P : Q o9 (E k2 (B8 P)) k2 (B9 P) := fun _ _ _ _ => by kernel_rfl
def code : Code := (.seq (R 0 o9) (.seq (.seq (R 1 o8) (.cond (.tmp 7) (.seq (R 2 o7) .ret) .skip)) (.seq (R 3 o6) (.seq (R 4 o5) (.seq (.seq (.region 5 ⟨o4⟩ true) (.cond (.tmp 33) (.seq (.region 6 ⟨o3⟩ true) (R 7 o2)) .skip)) (.seq (R 8 o1) .ret))))))
theorem body : Tryz.f88.body = some code := by kernel_rfl
theorem main (P : PT) : ∀ env H, (En 58 k2 (B9 P)) env H → AW Tryz.prog T0 code env H (M (ret P)) :=
  (r_seq (b (q9 P)) (r_seq (r_seq (b (q8 P)) (r_cond rfl (r_seq (b (q7 P)) r_ret) r_skip)) (r_seq (b (q6 P)) (r_seq (b (q5 P)) (r_seq (r_seq (rD T0_ok mixed [(0, false), (1, false), (2, false), (3, false), (4, false), (5, false), (6, false), (7, false), (8, false), (9, false)] (by kernel_rfl) (q4 P)) (r_cond rfl (r_seq (rD T0_ok mixed [(0, false), (1, false), (2, false), (3, false), (4, false), (5, false), (6, false), (7, false), (8, false), (9, false), (10, false), (11, false), (12, false), (13, false)] (by kernel_rfl) (q3 P)) (b (q2 P))) r_skip)) (r_seq (b (q1 P)) r_ret))))))
theorem ac (P : PT) (x0 : Value) (x1 : Int) (H : AHeap) (h : B9 P x0 x1 H) : AC Tryz.prog T0 88 [x0, (Value.int .i64 x1)] H P :=
  r_fn T0_ok (c := code) (n := 58) Tryz.func88 body (by kernel_rfl) (main P) (En_mk (x0, x1, ()) (by kernel_rfl) ⟨by kernel_rfl, by kernel_rfl, trivial⟩ h)

end F88
namespace F89
abbrev E := En 6
abbrev Q := QB Tryz.prog T0 6
def O (k : Nat) := ob Tryz.f89 (pth k)
def ret (P : PT) : EP := retE T0 6 Tryz.f89 P
abbrev k0 : Sk := [(0,.v)]
def o1 := O 6
def B1 (P : PT) : Y k0 := fun x0 H =>
  newK H [] 2 (fun b1 H2 => apK T0 2 H2 (Value.slice (some ⟨b1, 0, none⟩) 0 (0 + 1)) x0 (fun v3 H4 => P v3 H4))
theorem q1 P : Q o1 (ret P) k0 (B1 P) := fun _ _ _ => by kernel_rfl
def o2 := O 2
def B2 (P : PT) : Y k0 := fun x0 H =>
  B1 P x0 H
theorem q2 P : Q o2 (E k0 (B1 P)) k0 (B2 P) := fun _ _ _ => by kernel_rfl
def code : Code := (.seq (R 0 o2) (.seq (R 1 o1) .ret))
theorem body : Tryz.f89.body = some code := by kernel_rfl
theorem main (P : PT) : ∀ env H, (En 6 k0 (B2 P)) env H → AW Tryz.prog T0 code env H (M (ret P)) :=
  (r_seq (b (q2 P)) (r_seq (b (q1 P)) r_ret))
theorem ac (P : PT) (x0 : Value) (H : AHeap) (h : B2 P x0 H) : AC Tryz.prog T0 89 [x0] H P :=
  r_fn T0_ok (c := code) (n := 6) Tryz.func89 body (by kernel_rfl) (main P) (En_mk (x0, ()) (by kernel_rfl) ⟨by kernel_rfl, trivial⟩ h)

end F89
namespace F91
abbrev E := En 15
abbrev Q := QB Tryz.prog T0 15
def O (k : Nat) := ob Tryz.f91 (pth k)
def ret (P : PT) : EP := retE T0 15 Tryz.f91 P
abbrev k0 : Sk := [(0,J),(1,J),(2,J)]
def o1 := O 6
def B1 (P : PT) : Y k0 := fun x0 x1 x2 H =>
  pif (decide ((x0 : Int) ≥ x1)) (P (Value.bool (decide ((x0 : Int) ≤ x2))) H) (P (Value.bool false) H)
theorem q1 P : Q o1 (ret P) k0 (B1 P) := fun _ _ _ _ _ => by kernel_rfl
def o2 := O 2
def B2 (P : PT) : Y k0 := fun x0 x1 x2 H =>
  B1 P x0 x1 x2 H
theorem q2 P : Q o2 (E k0 (B1 P)) k0 (B2 P) := fun _ _ _ _ _ => by kernel_rfl
def code : Code := (.seq (R 0 o2) (.seq (R 1 o1) .ret))
theorem body : Tryz.f91.body = some code := by kernel_rfl
theorem main (P : PT) : ∀ env H, (En 15 k0 (B2 P)) env H → AW Tryz.prog T0 code env H (M (ret P)) :=
  (r_seq (b (q2 P)) (r_seq (b (q1 P)) r_ret))
theorem ac (P : PT) (x0 x1 x2 : Int) (H : AHeap) (h : B2 P x0 x1 x2 H) : AC Tryz.prog T0 91 [(Value.int .i64 x0), (Value.int .i64 x1), (Value.int .i64 x2)] H P :=
  r_fn T0_ok (c := code) (n := 15) Tryz.func91 body (by kernel_rfl) (main P) (En_mk (x0, x1, x2, ()) (by kernel_rfl) ⟨by kernel_rfl, by kernel_rfl, by kernel_rfl, trivial⟩ h)

end F91
namespace F94
abbrev E := En 7
abbrev Q := QB Tryz.prog T0 7
def O (k : Nat) := ob Tryz.f94 (pth k)
def ret (P : PT) : EP := retE T0 7 Tryz.f94 P
abbrev k0 : Sk := [(0,.v),(2,.x)]
def o1 := O 6
def B1 (P : PT) : Y k0 := fun x0 x2 H =>
  AC Tryz.prog T0 153 [x0] H (fun v1 H2 => agg2 v1 (fun v3 v4 => asI .i64 v3 (fun v5 => AC Tryz.prog T0 152 [x0, (Value.agg ⟨[(Value.int .i64 v5), v4]⟩)] H2 (fun v7 H8 => agg2 v7 (fun v9 v10 => asI .i64 v9 (fun v11 => stK H8 x2 0 [(Value.int .i64 v11), v10] (fun H13 => ldI .i64 H13 x2 0 (fun v14 => ld1 H13 x2 1 (fun v15 => P (Value.agg ⟨[(Value.int .i64 v14), v15]⟩) H13)))))))))
theorem q1 P : Q o1 (ret P) k0 (B1 P) := fun _ _ _ _ => by kernel_rfl
abbrev k1 : Sk := [(0,.v)]
def o2 := O 2
def B2 (P : PT) : Y k1 := fun x0 H =>
  newK H [(Value.int .i64 0), (Value.slice none 0 0)] 31 (fun b1 H2 => B1 P x0 b1 H2)
theorem q2 P : Q o2 (E k0 (B1 P)) k1 (B2 P) := fun _ _ _ => by kernel_rfl
def code : Code := (.seq (R 0 o2) (.seq (R 1 o1) .ret))
theorem body : Tryz.f94.body = some code := by kernel_rfl
theorem main (P : PT) : ∀ env H, (En 7 k1 (B2 P)) env H → AW Tryz.prog T0 code env H (M (ret P)) :=
  (r_seq (b (q2 P)) (r_seq (b (q1 P)) r_ret))
theorem ac (P : PT) (x0 : Value) (H : AHeap) (h : B2 P x0 H) : AC Tryz.prog T0 94 [x0] H P :=
  r_fn T0_ok (c := code) (n := 7) Tryz.func94 body (by kernel_rfl) (main P) (En_mk (x0, ()) (by kernel_rfl) ⟨by kernel_rfl, trivial⟩ h)

end F94
namespace F97
abbrev E := En 12
abbrev Q := QB Tryz.prog T0 12
def O (k : Nat) := ob Tryz.f97 (pth k)
def ret (P : PT) : EP := retE T0 12 Tryz.f97 P
abbrev k0 : Sk := [(4,.x),(5,.b)]
def o1 := O 30
def B1 (P : PT) : Y k0 := fun x4 x5 H =>
  ld1 H x4 0 (fun v1 => P (Value.tuple ⟨[v1, (Value.bool (!x5))]⟩) H)
theorem q1 P : Q o1 (ret P) k0 (B1 P) := fun _ _ _ _ => by kernel_rfl
abbrev k1 : Sk := [(1,.x),(4,.x)]
def o2 := O 14
def B2 (P : PT) : Y k1 := fun x1 x4 H =>
  ldI .i64 H x1 0 (fun v1 => ld1 H x1 1 (fun v2 => AC Tryz.prog T0 109 [(Value.agg ⟨[(Value.int .i64 v1), v2]⟩), (Value.func (.func 156) ⟨[]⟩ ⟨[(Value.pointer (some ⟨x4, 0, none⟩))]⟩)] H (fun v3 H4 => asB v3 (fun v5 => B1 P x4 v5 H4))))
theorem q2 P : Q o2 (E k0 (B1 P)) k1 (B2 P) := fun _ _ _ _ => by kernel_rfl
abbrev k2 : Sk := [(1,.x)]
def o3 := O 6
def B3 (P : PT) : Y k2 := fun x1 H =>
  newK H [(Value.slice none 0 0)] 107 (fun b1 H2 => B2 P x1 b1 H2)
theorem q3 P : Q o3 (E k1 (B2 P)) k2 (B3 P) := fun _ _ _ => by kernel_rfl
abbrev k3 : Sk := [(0,.g [.i,.v])]
def o4 := O 2
def B4 (P : PT) : Y k3 := fun x0a x0b H =>
  newK H [(Value.int .i64 x0a), x0b] 31 (fun b1 H2 => B3 P b1 H2)
theorem q4 P : Q o4 (E k2 (B3 P)) k3 (B4 P) := fun _ _ _ _ => by kernel_rfl
def code : Code := (.seq (R 0 o4) (.seq (R 1 o3) (.seq (R 2 o2) (.seq (R 3 o1) .ret))))
theorem body : Tryz.f97.body = some code := by kernel_rfl
theorem main (P : PT) : ∀ env H, (En 12 k3 (B4 P)) env H → AW Tryz.prog T0 code env H (M (ret P)) :=
  (r_seq (b (q4 P)) (r_seq (b (q3 P)) (r_seq (b (q2 P)) (r_seq (b (q1 P)) r_ret))))
theorem ac (P : PT) (x0a : Int) (x0b : Value) (H : AHeap) (h : B4 P x0a x0b H) : AC Tryz.prog T0 97 [(Value.agg ⟨[(Value.int .i64 x0a), x0b]⟩)] H P :=
  r_fn T0_ok (c := code) (n := 12) Tryz.func97 body (by kernel_rfl) (main P) (En_mk (x0a, x0b, ()) (by kernel_rfl) ⟨by kernel_rfl, trivial⟩ h)

end F97
namespace F98
abbrev E := En 7
abbrev Q := QB Tryz.prog T0 7
def O (k : Nat) := ob Tryz.f98 (pth k)
def ret (P : PT) : EP := retE T0 7 Tryz.f98 P
abbrev k0 : Sk := [(1,.x)]
def o1 := O 6
def B1 (P : PT) : Y k0 := fun x1 H =>
  ldI .i64 H x1 0 (fun v1 => ld1 H x1 1 (fun v2 => newK H [] 2 (fun b3 H4 => newK H4 [] 42 (fun b5 H6 => AC Tryz.prog T0 157 [(Value.agg ⟨[(Value.int .i64 v1), v2]⟩), (Value.slice (some ⟨b3, 0, none⟩) 0 (0 + 1)), (Value.int .i64 0), (Value.slice (some ⟨b5, 0, none⟩) 0 (0 + 1))] H6 (fun v7 H8 => P v7 H8)))))
theorem q1 P : Q o1 (ret P) k0 (B1 P) := fun _ _ _ => by kernel_rfl
abbrev k1 : Sk := [(0,.g [.i,.v])]
def o2 := O 2
def B2 (P : PT) : Y k1 := fun x0a x0b H =>
  newK H [(Value.int .i64 x0a), x0b] 31 (fun b1 H2 => B1 P b1 H2)
theorem q2 P : Q o2 (E k0 (B1 P)) k1 (B2 P) := fun _ _ _ _ => by kernel_rfl
def code : Code := (.seq (R 0 o2) (.seq (R 1 o1) .ret))
theorem body : Tryz.f98.body = some code := by kernel_rfl
theorem main (P : PT) : ∀ env H, (En 7 k1 (B2 P)) env H → AW Tryz.prog T0 code env H (M (ret P)) :=
  (r_seq (b (q2 P)) (r_seq (b (q1 P)) r_ret))
theorem ac (P : PT) (x0a : Int) (x0b : Value) (H : AHeap) (h : B2 P x0a x0b H) : AC Tryz.prog T0 98 [(Value.agg ⟨[(Value.int .i64 x0a), x0b]⟩)] H P :=
  r_fn T0_ok (c := code) (n := 7) Tryz.func98 body (by kernel_rfl) (main P) (En_mk (x0a, x0b, ()) (by kernel_rfl) ⟨by kernel_rfl, trivial⟩ h)

end F98
namespace F99
abbrev E := En 22
abbrev Q := QB Tryz.prog T0 22
def O (k : Nat) := ob Tryz.f99 (pth k)
def ret (P : PT) : EP := retE T0 22 Tryz.f99 P
abbrev k0 : Sk := [(5,J)]
def o1 := O 30
def B1 (P : PT) : Y k0 := fun x5 H =>
  P (Value.int .i64 x5) H
theorem q1 P : Q o1 (ret P) k0 (B1 P) := fun _ _ _ => by kernel_rfl
abbrev k1 : Sk := [(0,.v),(1,J),(5,J),(6,J)]
def o3 := O 467
def B3 (P : PT) (N2 : Y k1) : Y k1 := fun x0 x1 x5 x6 H =>
  N2 x0 x1 x5 (IntKind.i64.wrap (x6 + 1)) H
theorem q3 P N2 : Q o3 (E k1 N2) k1 (B3 P N2) := fun _ _ _ _ _ _ => by kernel_rfl
def o4 := O 3730
def B4 (P : PT) (N2 : Y k1) : Y k1 := fun x0 x1 x5 x6 H =>
  B3 P N2 x0 x1 (IntKind.i64.wrap (x5 + 1)) x6 H
theorem q4 P N2 : Q o4 (E k1 (B3 P N2)) k1 (B4 P N2) := fun _ _ _ _ _ _ => by kernel_rfl
def o5 := O 1864
def B5 (P : PT) (N2 : Y k1) : Y k1 := fun x0 x1 x5 x6 H =>
  idxK x0 x6 1 (fun b1 o2 => ld1 H b1 o2 (fun v3 => AC Tryz.prog T0 158 [v3, (Value.int .i64 x1)] H (fun v4 H5 => asB v4 (fun v6 => pif v6 (B4 P N2 x0 x1 x5 x6 H5) (B3 P N2 x0 x1 x5 x6 H5)))))
theorem q5 P N2 : Q o5 (cnd 18 (E k1 (B4 P N2)) (E k1 (B3 P N2))) k1 (B5 P N2) := fun _ _ _ _ _ _ => by kernel_rfl
def o6 := O 464
def B6 (P : PT) (N2 : Y k1) : Y k1 := fun x0 x1 x5 x6 H =>
  lenK x0 (fun n1 => pif (decide ((x6 : Int) < (n1 : Int))) (B5 P N2 x0 x1 x5 x6 H) (B1 P x5 H))
theorem q6 P N2 : Q o6 (cnd 10 (E k1 (B5 P N2)) (E k0 (B1 P))) k1 (B6 P N2) := fun _ _ _ _ _ _ => by kernel_rfl
def L2 (P : PT) : Y k1 := fun x0 x1 x5 x6 H =>
  ∃ (I : Y k1) (μ : NTy k1 (AHeap → Nat)), I x0 x1 x5 x6 H ∧ ∀ y0 y1 y5 y6 G, I y0 y1 y5 y6 G → B6 P (fun z0 z1 z5 z6 G' => I z0 z1 z5 z6 G' ∧ μ z0 z1 z5 z6 G' < μ y0 y1 y5 y6 G) y0 y1 y5 y6 G
theorem l2 P : LQ k1 (L2 P) (B6 P) := fun ⟨_,_,_,_,_⟩ _ ⟨I, μ, h0, hI⟩ => ⟨apT _ I, apT _ μ, h0, fun ⟨_,_,_,_,_⟩ _ h => hI _ _ _ _ _  h⟩
abbrev k2 : Sk := [(0,.v),(1,J),(5,J)]
def o7 := O 28
def B7 (P : PT) : Y k2 := fun x0 x1 x5 H =>
  L2 P x0 x1 x5 0 H
theorem q7 P : Q o7 (E k1 (L2 P)) k2 (B7 P) := fun _ _ _ _ _ => by kernel_rfl
abbrev k3 : Sk := [(0,.v),(1,J)]
def o8 := O 6
def B8 (P : PT) : Y k3 := fun x0 x1 H =>
  B7 P x0 x1 0 H
theorem q8 P : Q o8 (E k2 (B7 P)) k3 (B8 P) := fun _ _ _ _ => by kernel_rfl
def o9 := O 2
def B9 (P : PT) : Y k3 := fun x0 x1 H =>
  B8 P x0 x1 H
theorem q9 P : Q o9 (E k3 (B8 P)) k3 (B9 P) := fun _ _ _ _ => by kernel_rfl
def code : Code := (.seq (R 0 o9) (.seq (R 1 o8) (.seq (.seq (R 2 o7) (.block 0 (.loop (.seq (.seq (R 3 o6) (.cond (.tmp 10) .skip (.exit 0))) (.seq (.block 1 (.seq (R 5 o5) (.cond (.tmp 18) (R 6 o4) .skip))) (R 4 o3)))))) (.seq (R 7 o1) .ret))))
theorem body : Tryz.f99.body = some code := by kernel_rfl
theorem main (P : PT) : ∀ env H, (En 22 k3 (B9 P)) env H → AW Tryz.prog T0 code env H (M (ret P)) :=
  (r_seq (b (q9 P)) (r_seq (b (q8 P)) (r_seq (r_seq (b (q7 P)) (r_block (rL (l2 P) (fun N2 => (r_seq (r_seq (b (q6 P N2)) (r_cond rfl r_skip (r_exit (fun _ _ h => h)))) (r_seq (r_block (r_seq (b (q5 P N2)) (r_cond rfl (b (q4 P N2)) r_skip))) (b (q3 P N2)))))))) (r_seq (b (q1 P)) r_ret))))
theorem ac (P : PT) (x0 : Value) (x1 : Int) (H : AHeap) (h : B9 P x0 x1 H) : AC Tryz.prog T0 99 [x0, (Value.int .i64 x1)] H P :=
  r_fn T0_ok (c := code) (n := 22) Tryz.func99 body (by kernel_rfl) (main P) (En_mk (x0, x1, ()) (by kernel_rfl) ⟨by kernel_rfl, by kernel_rfl, trivial⟩ h)

end F99
namespace F100
abbrev E := En 39
abbrev Q := QB Tryz.prog T0 39
def O (k : Nat) := ob Tryz.f100 (pth k)
def ret (P : PT) : EP := retE T0 39 Tryz.f100 P
abbrev k0 : Sk := [(2,.x),(4,.v),(5,.x),(6,.v)]
def o1 := O 254
def B1 (P : PT) : Y k0 := fun x2 x4 x5 x6 H =>
  ldI .i64 H x5 0 (fun v1 => ld1 H x5 1 (fun v2 => lenK x6 (fun n3 => AC Tryz.prog T0 88 [x4, (Value.int .i64 (n3 : Int))] H (fun v4 H5 => asI .i64 v4 (fun v6 => (ldI .i64 H5 x5 0 (fun v7 => ld1 H5 x5 1 (fun v8 => ((Value.agg ⟨[(Value.int .i64 v7), v8]⟩) = (Value.agg ⟨[(Value.int .i64 v1), v2]⟩)) ∧ (H5 = H5)))) ∧ (idxK x6 v6 1 (fun b9 o10 => ld1 H5 b9 o10 (fun v11 => stK H5 x2 0 [(Value.int .i64 v1), v2] (fun H12 => (ld1 H12 b9 o10 (fun v13 => (v13 = v11) ∧ (H12 = H12))) ∧ (ldI .i64 H12 x2 0 (fun v14 => ld1 H12 x2 1 (fun v15 => P (Value.tuple ⟨[(Value.agg ⟨[(Value.int .i64 v14), v15]⟩), v11]⟩) H12))))))))))))
theorem q1 (P : PT) : QT Tryz.prog T0 39 o1 (.op 0 [] (.op 1 [] (.op 2 [] (.op 3 [] (.op 4 [] (.op 5 [0] (.op 6 [] (.op 7 [] (.op 8 [7] (.op 9 [] .done)))))))))) (ret P) k0 (B1 P) := fun _ _ _ _ _ _  => by kernel_rfl
abbrev k1 : Sk := [(2,.x),(4,.v),(5,.x)]
def o2 := O 1012
def B2 (P : PT) : Y k1 := fun x2 x4 x5 H =>
  ldI .i64 H x5 0 (fun v1 => ld1 H x5 1 (fun v2 => newK H [(Value.int .i64 1), (Value.int .i64 2), (Value.int .i64 3), (Value.int .i64 (-1)), (Value.int .i64 40)] 2 (fun b3 H4 => AC Tryz.prog T0 159 [x4, (Value.slice (some ⟨b3, 0, none⟩) 5 (5 + 1))] H4 (fun v5 H6 => asI .i64 v5 (fun v7 => (ldI .i64 H6 x5 0 (fun v8 => ld1 H6 x5 1 (fun v9 => ((Value.agg ⟨[(Value.int .i64 v8), v9]⟩) = (Value.agg ⟨[(Value.int .i64 v1), v2]⟩)) ∧ (H6 = H6)))) ∧ ((newK H6 [(Value.int .i64 0), (Value.int .i64 v7)] 2 (fun b10 H11 => stK H11 x2 0 [(Value.int .i64 v1), v2] (fun H12 => ldI .i64 H12 x2 0 (fun v13 => ld1 H12 x2 1 (fun v14 => P (Value.tuple ⟨[(Value.agg ⟨[(Value.int .i64 v13), v14]⟩), (Value.slice (some ⟨b10, 0, none⟩) 2 (2 + 1))]⟩) H12))))) ∧ (stK H6 x2 0 [(Value.int .i64 v1), v2] (fun H15 => newK H15 [(Value.int .i64 0), (Value.int .i64 v7)] 2 (fun b16 H17 => ldI .i64 H17 x2 0 (fun v18 => ld1 H17 x2 1 (fun v19 => P (Value.tuple ⟨[(Value.agg ⟨[(Value.int .i64 v18), v19]⟩), (Value.slice (some ⟨b16, 0, none⟩) 2 (2 + 1))]⟩) H17)))))))))))
theorem q2 (P : PT) : QT Tryz.prog T0 39 o2 (.op 0 [] (.op 1 [] (.op 2 [] (.op 3 [0] (.alt (.op 4 [] (.op 5 [] (.op 6 [] .done))) (.op 5 [] (.op 4 [] (.op 6 [] .done)))))))) (ret P) k1 (B2 P) := fun _ _ _ _ _  => by kernel_rfl
def o3 := O 252
def B3 (P : PT) : Y k0 := fun x2 x4 x5 x6 H =>
  lenK x6 (fun n1 => pif (((n1 : Int) : Int) == 0) (B2 P x2 x4 x5 H) (AC Tryz.prog T0 88 [x4, (Value.int .i64 16)] H (fun v2 H3 => asI .i64 v2 (fun v4 => pif ((v4 : Int) == 0) (B2 P x2 x4 x5 H3) (B1 P x2 x4 x5 x6 H3)))))
theorem q3 P : Q o3 (cnd 25 (E k1 (B2 P)) (E k0 (B1 P))) k0 (B3 P) := fun _ _ _ _ _ _ => by kernel_rfl
def o4 := O 62
def B4 (P : PT) : Y k1 := fun x2 x4 x5 H =>
  ldI .i64 H x5 0 (fun v1 => ld1 H x5 1 (fun v2 => AC Tryz.prog T0 98 [(Value.agg ⟨[(Value.int .i64 v1), v2]⟩)] H (fun v3 H4 => B3 P x2 x4 x5 v3 H4)))
theorem q4 P : Q o4 (E k0 (B3 P)) k1 (B4 P) := fun _ _ _ _ _ => by kernel_rfl
abbrev k2 : Sk := [(2,.x),(5,.x)]
def o5 := O 244
def B5 (P : PT) : Y k2 := fun x2 x5 H =>
  ldI .i64 H x5 0 (fun v1 => ld1 H x5 1 (fun v2 => newK H [(Value.int .i64 0)] 2 (fun b3 H4 => stK H4 x2 0 [(Value.int .i64 v1), v2] (fun H5 => ldI .i64 H5 x2 0 (fun v6 => ld1 H5 x2 1 (fun v7 => P (Value.tuple ⟨[(Value.agg ⟨[(Value.int .i64 v6), v7]⟩), (Value.slice (some ⟨b3, 0, none⟩) 1 (1 + 1))]⟩) H5))))))
theorem q5 P : Q o5 (ret P) k2 (B5 P) := fun _ _ _ _ => by kernel_rfl
def o6 := O 60
def B6 (P : PT) : Y k1 := fun x2 x4 x5 H =>
  ldI .i64 H x5 0 (fun v1 => ld1 H x5 1 (fun v2 => AC Tryz.prog T0 68 [(Value.agg ⟨[(Value.int .i64 v1), v2]⟩)] H (fun v3 H4 => asB v3 (fun v5 => pif (!v5) (B5 P x2 x5 H4) (B4 P x2 x4 x5 H4)))))
theorem q6 P : Q o6 (cnd 13 (E k2 (B5 P)) (E k1 (B4 P))) k1 (B6 P) := fun _ _ _ _ _ => by kernel_rfl
abbrev k3 : Sk := [(2,.x),(4,.v)]
def o7 := O 14
def B7 (P : PT) : Y k3 := fun x2 x4 H =>
  AC Tryz.prog T0 94 [x4] H (fun v1 H2 => agg2 v1 (fun v3 v4 => asI .i64 v3 (fun v5 => newK H2 [(Value.int .i64 0), (Value.slice none 0 0)] 31 (fun b7 H8 => stK H8 b7 0 [(Value.int .i64 v5), v4] (fun H9 => B6 P x2 x4 b7 H9)))))
theorem q7 P : Q o7 (E k1 (B6 P)) k3 (B7 P) := fun _ _ _ _ => by kernel_rfl
abbrev k4 : Sk := [(0,.v),(2,.x)]
def o8 := O 6
def B8 (P : PT) : Y k4 := fun x0 x2 H =>
  AC Tryz.prog T0 78 [x0] H (fun v1 H2 => B7 P x2 v1 H2)
theorem q8 P : Q o8 (E k3 (B7 P)) k4 (B8 P) := fun _ _ _ _ => by kernel_rfl
abbrev k5 : Sk := [(0,.v)]
def o9 := O 2
def B9 (P : PT) : Y k5 := fun x0 H =>
  newK H [(Value.int .i64 0), (Value.slice none 0 0)] 31 (fun b1 H2 => B8 P x0 b1 H2)
theorem q9 P : Q o9 (E k4 (B8 P)) k5 (B9 P) := fun _ _ _ => by kernel_rfl
def code : Code := (.seq (R 0 o9) (.seq (R 1 o8) (.seq (R 2 o7) (.seq (.seq (R 3 o6) (.cond (.tmp 13) (.seq (R 4 o5) .ret) .skip)) (.seq (R 5 o4) (.seq (.seq (R 6 o3) (.cond (.tmp 25) (.seq (.region 7 ⟨o2⟩ true) .ret) .skip)) (.seq (.region 8 ⟨o1⟩ true) .ret)))))))
theorem body : Tryz.f100.body = some code := by kernel_rfl
theorem main (P : PT) : ∀ env H, (En 39 k5 (B9 P)) env H → AW Tryz.prog T0 code env H (M (ret P)) :=
  (r_seq (b (q9 P)) (r_seq (b (q8 P)) (r_seq (b (q7 P)) (r_seq (r_seq (b (q6 P)) (r_cond rfl (r_seq (b (q5 P)) r_ret) r_skip)) (r_seq (b (q4 P)) (r_seq (r_seq (b (q3 P)) (r_cond rfl (r_seq (rT T0_ok mixed (.op 0 [] (.op 1 [] (.op 2 [] (.op 3 [0] (.alt (.op 4 [] (.op 5 [] (.op 6 [] .done))) (.op 5 [] (.op 4 [] (.op 6 [] .done)))))))) (by kernel_rfl) (q2 P)) r_ret) r_skip)) (r_seq (rT T0_ok mixed (.op 0 [] (.op 1 [] (.op 2 [] (.op 3 [] (.op 4 [] (.op 5 [0] (.op 6 [] (.op 7 [] (.op 8 [7] (.op 9 [] .done)))))))))) (by kernel_rfl) (q1 P)) r_ret)))))))
theorem ac (P : PT) (x0 : Value) (H : AHeap) (h : B9 P x0 H) : AC Tryz.prog T0 100 [x0] H P :=
  r_fn T0_ok (c := code) (n := 39) Tryz.func100 body (by kernel_rfl) (main P) (En_mk (x0, ()) (by kernel_rfl) ⟨by kernel_rfl, trivial⟩ h)

end F100
namespace F101
abbrev E := En 57
abbrev Q := QB Tryz.prog T0 57
def O (k : Nat) := ob Tryz.f101 (pth k)
def ret (P : PT) : EP := retE T0 57 Tryz.f101 P
abbrev k0 : Sk := [(2,.x),(5,.i .u64)]
def o1 := O 62
def B1 (P : PT) : Y k0 := fun x2 x5 H =>
  ldI .i64 H x2 0 (fun v1 => ((0 : Int) ≤ v1) ∧ (P (Value.bool ((x5 : Int) == (IntKind.u64.wrap ((IntKind.u64.wrap (1 * 2 ^ (min (Int.toNat v1) 64))) - 1)))) H))
theorem q1 P : Q o1 (ret P) k0 (B1 P) := fun _ _ _ _ => by kernel_rfl
abbrev k1 : Sk := [(2,.x),(5,.i .u64),(27,.v),(28,J),(29,J)]
def o3 := O 1959
def B3 (P : PT) (N2 : Y k1) : Y k1 := fun x2 x5 x27 x28 x29 H =>
  N2 x2 x5 x27 x28 (IntKind.i64.wrap (x29 + 1)) H
theorem q3 P N2 : Q o3 (E k1 N2) k1 (B3 P N2) := fun _ _ _ _ _ _ _ => by kernel_rfl
abbrev k2 : Sk := [(2,.x),(5,.i .u64),(7,J),(27,.v),(28,J),(29,J)]
def o4 := O 7833
def B4 (P : PT) (N2 : Y k1) : Y k2 := fun x2 x5 x7 x27 x28 x29 H =>
  ld1 H x2 1 (fun v1 => idxK v1 x7 2 (fun b2 o3 => ldI .i64 H b2 o3 (fun v4 => ((0 : Int) ≤ v4) ∧ (ld1 H x2 1 (fun v5 => idxK v5 x7 2 (fun b6 o7 => ldI .i64 H b6 (o7 + 1) (fun v8 => ((0 : Int) ≤ v8) ∧ (B3 P N2 x2 (IntKind.u64.wrap (BitVec.ofInt 64 x5 ||| BitVec.ofInt 64 (IntKind.u64.wrap (BitVec.ofInt 64 (IntKind.u64.wrap (1 * 2 ^ (min (Int.toNat v4) 64))) ||| BitVec.ofInt 64 (IntKind.u64.wrap (1 * 2 ^ (min (Int.toNat v8) 64)))).toNat)).toNat) x27 x28 x29 H))))))))
theorem q4 (P : PT) (N2 : Y k1) : QD Tryz.prog T0 57 o4 [(0, false), (1, false), (2, false), (3, false), (4, false), (5, false), (6, false), (7, false), (8, false), (9, false), (10, false), (11, false), (12, false), (13, false), (14, false), (15, false), (16, false), (17, false)] (En 57 k1 (B3 P N2)) k2 (B4 P N2) := fun _ _ _ _ _ _ _ _  => by kernel_rfl
def o5 := O 7832
def B5 (P : PT) (N2 : Y k1) : Y k1 := fun x2 x5 x27 x28 x29 H =>
  idxK x27 x29 1 (fun b1 o2 => ldI .i64 H b1 o2 (fun v3 => B4 P N2 x2 x5 v3 x27 x28 x29 H))
theorem q5 P N2 : Q o5 (E k2 (B4 P N2)) k1 (B5 P N2) := fun _ _ _ _ _ _ _ => by kernel_rfl
def o6 := O 488
def B6 (P : PT) (N2 : Y k1) : Y k1 := fun x2 x5 x27 x28 x29 H =>
  pif (decide ((x29 : Int) < x28)) (B5 P N2 x2 x5 x27 x28 x29 H) (B1 P x2 x5 H)
theorem q6 P N2 : Q o6 (cnd 30 (E k1 (B5 P N2)) (E k0 (B1 P))) k1 (B6 P N2) := fun _ _ _ _ _ _ _ => by kernel_rfl
def L2 (P : PT) : Y k1 := fun x2 x5 x27 x28 x29 H =>
  ∃ (I : Y k1) (μ : NTy k1 (AHeap → Nat)), I x2 x5 x27 x28 x29 H ∧ ∀ y2 y5 y27 y28 y29 G, I y2 y5 y27 y28 y29 G → B6 P (fun z2 z5 z27 z28 z29 G' => I z2 z5 z27 z28 z29 G' ∧ μ z2 z5 z27 z28 z29 G' < μ y2 y5 y27 y28 y29 G) y2 y5 y27 y28 y29 G
theorem l2 P : LQ k1 (L2 P) (B6 P) := fun ⟨_,_,_,_,_,_⟩ _ ⟨I, μ, h0, hI⟩ => ⟨apT _ I, apT _ μ, h0, fun ⟨_,_,_,_,_,_⟩ _ h => hI _ _ _ _ _ _  h⟩
abbrev k3 : Sk := [(1,.v),(2,.x),(5,.i .u64)]
def o7 := O 60
def B7 (P : PT) : Y k3 := fun x1 x2 x5 H =>
  lenK x1 (fun n1 => L2 P x2 x5 x1 (n1 : Int) 0 H)
theorem q7 P : Q o7 (E k1 (L2 P)) k3 (B7 P) := fun _ _ _ _ _ => by kernel_rfl
abbrev k4 : Sk := [(1,.v),(2,.x)]
def o8 := O 14
def B8 (P : PT) : Y k4 := fun x1 x2 H =>
  B7 P x1 x2 0 H
theorem q8 P : Q o8 (E k3 (B7 P)) k4 (B8 P) := fun _ _ _ _ => by kernel_rfl
abbrev k5 : Sk := []
def o9 := O 52
def B9 (P : PT) : Y k5 := fun H =>
  P (Value.bool false) H
theorem q9 P : Q o9 (ret P) k5 (B9 P) := fun _ _ => by kernel_rfl
def o10 := O 12
def B10 (P : PT) : Y k4 := fun x1 x2 H =>
  ldI .i64 H x2 0 (fun v1 => ld1 H x2 1 (fun v2 => AC Tryz.prog T0 13 [(Value.agg ⟨[(Value.int .i64 v1), v2]⟩)] H (fun v3 H4 => asB v3 (fun v5 => pif (!v5) (B9 P H4) (ld1 H4 x2 1 (fun v6 => AC Tryz.prog T0 115 [v6] H4 (fun v7 H8 => asI .i64 v7 (fun v9 => AC Tryz.prog T0 160 [x1, (Value.int .i64 v9)] H8 (fun v10 H11 => asB v10 (fun v12 => pif (!v12) (B9 P H11) (ldI .i64 H11 x2 0 (fun v13 => AC Tryz.prog T0 161 [x1] H11 (fun v14 H15 => asI .i64 v14 (fun v16 => (AHeap.le H11 H15) ∧ (pif ((v16 : Int) != (IntKind.i64.wrap (Int.tdiv v13 2))) (B9 P H15) (B8 P x1 x2 H15))))))))))))))))
theorem q10 (P : PT) : QD Tryz.prog T0 57 o10 [(0, false), (1, false), (2, false), (3, false), (4, false), (5, false), (6, false), (7, false), (8, false), (9, false), (10, false), (11, false), (12, false), (14, false), (15, false), (16, false), (13, true), (17, false), (18, false)] (cnd 26 (En 57 k5 (B9 P)) (En 57 k4 (B8 P))) k4 (B10 P) := fun _ _ _ _  => by kernel_rfl
abbrev k6 : Sk := [(0,.g [.i,.v]),(1,.v)]
def o11 := O 2
def B11 (P : PT) : Y k6 := fun x0a x0b x1 H =>
  newK H [(Value.int .i64 x0a), x0b] 31 (fun b1 H2 => B10 P x1 b1 H2)
theorem q11 P : Q o11 (E k4 (B10 P)) k6 (B11 P) := fun _ _ _ _ _ => by kernel_rfl
def code : Code := (.seq (R 0 o11) (.seq (.seq (.region 1 ⟨o10⟩ true) (.cond (.tmp 26) (.seq (R 2 o9) .ret) .skip)) (.seq (R 3 o8) (.seq (.seq (R 4 o7) (.block 0 (.loop (.seq (R 5 o6) (.seq (.cond (.tmp 30) .skip (.exit 0)) (.seq (.block 1 (.seq (R 6 o5) (.region 7 ⟨o4⟩ true))) (R 8 o3))))))) (.seq (R 9 o1) .ret)))))
theorem body : Tryz.f101.body = some code := by kernel_rfl
theorem main (P : PT) : ∀ env H, (En 57 k6 (B11 P)) env H → AW Tryz.prog T0 code env H (M (ret P)) :=
  (r_seq (b (q11 P)) (r_seq (r_seq (rD T0_ok mixed [(0, false), (1, false), (2, false), (3, false), (4, false), (5, false), (6, false), (7, false), (8, false), (9, false), (10, false), (11, false), (12, false), (14, false), (15, false), (16, false), (13, true), (17, false), (18, false)] (by kernel_rfl) (q10 P)) (r_cond rfl (r_seq (b (q9 P)) r_ret) r_skip)) (r_seq (b (q8 P)) (r_seq (r_seq (b (q7 P)) (r_block (rL (l2 P) (fun N2 => (r_seq (b (q6 P N2)) (r_seq (r_cond rfl r_skip (r_exit (fun _ _ h => h))) (r_seq (r_block (r_seq (b (q5 P N2)) (rD T0_ok mixed [(0, false), (1, false), (2, false), (3, false), (4, false), (5, false), (6, false), (7, false), (8, false), (9, false), (10, false), (11, false), (12, false), (13, false), (14, false), (15, false), (16, false), (17, false)] (by kernel_rfl) (q4 P N2)))) (b (q3 P N2))))))))) (r_seq (b (q1 P)) r_ret)))))
theorem ac (P : PT) (x0a : Int) (x0b x1 : Value) (H : AHeap) (h : B11 P x0a x0b x1 H) : AC Tryz.prog T0 101 [(Value.agg ⟨[(Value.int .i64 x0a), x0b]⟩), x1] H P :=
  r_fn T0_ok (c := code) (n := 57) Tryz.func101 body (by kernel_rfl) (main P) (En_mk (x0a, x0b, x1, ()) (by kernel_rfl) ⟨by kernel_rfl, by kernel_rfl, trivial⟩ h)

end F101
namespace F102
abbrev E := En 11
abbrev Q := QB Tryz.prog T0 11
def O (k : Nat) := ob Tryz.f102 (pth k)
def ret (P : PT) : EP := retE T0 11 Tryz.f102 P
abbrev k0 : Sk := [(1,.i .u64),(2,.x)]
def o1 := O 6
def B1 (P : PT) : Y k0 := fun x1 x2 H =>
  ldI .i64 H x2 0 (fun v1 => ld1 H x2 1 (fun v2 => ldI .i64 H x2 0 (fun v3 => ld1 H x2 1 (fun v4 => AC Tryz.prog T0 108 [(Value.agg ⟨[(Value.int .i64 v3), v4]⟩)] H (fun v5 H6 => asI .u64 v5 (fun v7 => (AHeap.le H H6) ∧ (AC Tryz.prog T0 162 [(Value.agg ⟨[(Value.int .i64 v1), v2]⟩), (Value.int .u64 (IntKind.u64.wrap (BitVec.ofInt 64 v7 &&& ~~~(BitVec.ofInt 64 x1)).toNat))] H6 (fun v8 H9 => P v8 H9))))))))
theorem q1 (P : PT) : QD Tryz.prog T0 11 o1 [(0, false), (1, false), (3, false), (2, true), (4, false), (5, false), (6, false)] (ret P) k0 (B1 P) := fun _ _ _ _  => by kernel_rfl
abbrev k1 : Sk := [(0,.g [.i,.v]),(1,.i .u64)]
def o2 := O 2
def B2 (P : PT) : Y k1 := fun x0a x0b x1 H =>
  newK H [(Value.int .i64 x0a), x0b] 31 (fun b1 H2 => B1 P x1 b1 H2)
theorem q2 P : Q o2 (E k0 (B1 P)) k1 (B2 P) := fun _ _ _ _ _ => by kernel_rfl
def code : Code := (.seq (R 0 o2) (.seq (.region 1 ⟨o1⟩ true) .ret))
theorem body : Tryz.f102.body = some code := by kernel_rfl
theorem main (P : PT) : ∀ env H, (En 11 k1 (B2 P)) env H → AW Tryz.prog T0 code env H (M (ret P)) :=
  (r_seq (b (q2 P)) (r_seq (rD T0_ok mixed [(0, false), (1, false), (3, false), (2, true), (4, false), (5, false), (6, false)] (by kernel_rfl) (q1 P)) r_ret))
theorem ac (P : PT) (x0a : Int) (x0b : Value) (x1 : Int) (H : AHeap) (h : B2 P x0a x0b x1 H) : AC Tryz.prog T0 102 [(Value.agg ⟨[(Value.int .i64 x0a), x0b]⟩), (Value.int .u64 x1)] H P :=
  r_fn T0_ok (c := code) (n := 11) Tryz.func102 body (by kernel_rfl) (main P) (En_mk (x0a, x0b, x1, ()) (by kernel_rfl) ⟨by kernel_rfl, by kernel_rfl, trivial⟩ h)

end F102
namespace F103
abbrev E := En 18
abbrev Q := QB Tryz.prog T0 18
def O (k : Nat) := ob Tryz.f103 (pth k)
def ret (P : PT) : EP := retE T0 18 Tryz.f103 P
abbrev k0 : Sk := [(3,.i .u64)]
def o1 := O 30
def B1 (P : PT) : Y k0 := fun x3 H =>
  P (Value.int .u64 x3) H
theorem q1 P : Q o1 (ret P) k0 (B1 P) := fun _ _ _ => by kernel_rfl
abbrev k1 : Sk := [(3,.i .u64),(6,.v),(7,J),(8,J)]
def o3 := O 935
def B3 (P : PT) (N2 : Y k1) : Y k1 := fun x3 x6 x7 x8 H =>
  N2 x3 x6 x7 (IntKind.i64.wrap (x8 + 1)) H
theorem q3 P N2 : Q o3 (E k1 N2) k1 (B3 P N2) := fun _ _ _ _ _ _ => by kernel_rfl
abbrev k2 : Sk := [(3,.i .u64),(5,J),(6,.v),(7,J),(8,J)]
def o4 := O 3737
def B4 (P : PT) (N2 : Y k1) : Y k2 := fun x3 x5 x6 x7 x8 H =>
  ((0 : Int) ≤ x5) ∧ (B3 P N2 (IntKind.u64.wrap (BitVec.ofInt 64 x3 ||| BitVec.ofInt 64 (IntKind.u64.wrap (1 * 2 ^ (min (Int.toNat x5) 64)))).toNat) x6 x7 x8 H)
theorem q4 P N2 : Q o4 (E k1 (B3 P N2)) k2 (B4 P N2) := fun _ _ _ _ _ _ _ => by kernel_rfl
def o5 := O 3736
def B5 (P : PT) (N2 : Y k1) : Y k1 := fun x3 x6 x7 x8 H =>
  idxK x6 x8 1 (fun b1 o2 => ldI .i64 H b1 o2 (fun v3 => B4 P N2 x3 v3 x6 x7 x8 H))
theorem q5 P N2 : Q o5 (E k2 (B4 P N2)) k1 (B5 P N2) := fun _ _ _ _ _ _ => by kernel_rfl
def o6 := O 232
def B6 (P : PT) (N2 : Y k1) : Y k1 := fun x3 x6 x7 x8 H =>
  pif (decide ((x8 : Int) < x7)) (B5 P N2 x3 x6 x7 x8 H) (B1 P x3 H)
theorem q6 P N2 : Q o6 (cnd 9 (E k1 (B5 P N2)) (E k0 (B1 P))) k1 (B6 P N2) := fun _ _ _ _ _ _ => by kernel_rfl
def L2 (P : PT) : Y k1 := fun x3 x6 x7 x8 H =>
  ∃ (I : Y k1) (μ : NTy k1 (AHeap → Nat)), I x3 x6 x7 x8 H ∧ ∀ y3 y6 y7 y8 G, I y3 y6 y7 y8 G → B6 P (fun z3 z6 z7 z8 G' => I z3 z6 z7 z8 G' ∧ μ z3 z6 z7 z8 G' < μ y3 y6 y7 y8 G) y3 y6 y7 y8 G
theorem l2 P : LQ k1 (L2 P) (B6 P) := fun ⟨_,_,_,_,_⟩ _ ⟨I, μ, h0, hI⟩ => ⟨apT _ I, apT _ μ, h0, fun ⟨_,_,_,_,_⟩ _ h => hI _ _ _ _ _  h⟩
abbrev k3 : Sk := [(0,.v),(3,.i .u64)]
def o7 := O 28
def B7 (P : PT) : Y k3 := fun x0 x3 H =>
  lenK x0 (fun n1 => L2 P x3 x0 (n1 : Int) 0 H)
theorem q7 P : Q o7 (E k1 (L2 P)) k3 (B7 P) := fun _ _ _ _ => by kernel_rfl
abbrev k4 : Sk := [(0,.v)]
def o8 := O 6
def B8 (P : PT) : Y k4 := fun x0 H =>
  B7 P x0 0 H
theorem q8 P : Q o8 (E k3 (B7 P)) k4 (B8 P) := fun _ _ _ => by kernel_rfl
def o9 := O 2
def B9 (P : PT) : Y k4 := fun x0 H =>
  B8 P x0 H
theorem q9 P : Q o9 (E k4 (B8 P)) k4 (B9 P) := fun _ _ _ => by kernel_rfl
def code : Code := (.seq (R 0 o9) (.seq (R 1 o8) (.seq (.seq (R 2 o7) (.block 0 (.loop (.seq (R 3 o6) (.seq (.cond (.tmp 9) .skip (.exit 0)) (.seq (.block 1 (.seq (R 4 o5) (R 5 o4))) (R 6 o3))))))) (.seq (R 7 o1) .ret))))
theorem body : Tryz.f103.body = some code := by kernel_rfl
theorem main (P : PT) : ∀ env H, (En 18 k4 (B9 P)) env H → AW Tryz.prog T0 code env H (M (ret P)) :=
  (r_seq (b (q9 P)) (r_seq (b (q8 P)) (r_seq (r_seq (b (q7 P)) (r_block (rL (l2 P) (fun N2 => (r_seq (b (q6 P N2)) (r_seq (r_cond rfl r_skip (r_exit (fun _ _ h => h))) (r_seq (r_block (r_seq (b (q5 P N2)) (b (q4 P N2)))) (b (q3 P N2))))))))) (r_seq (b (q1 P)) r_ret))))
theorem ac (P : PT) (x0 : Value) (H : AHeap) (h : B9 P x0 H) : AC Tryz.prog T0 103 [x0] H P :=
  r_fn T0_ok (c := code) (n := 18) Tryz.func103 body (by kernel_rfl) (main P) (En_mk (x0, ()) (by kernel_rfl) ⟨by kernel_rfl, trivial⟩ h)

end F103
namespace F104
abbrev E := En 11
abbrev Q := QB Tryz.prog T0 11
def O (k : Nat) := ob Tryz.f104 (pth k)
def ret (P : PT) : EP := retE T0 11 Tryz.f104 P
abbrev k0 : Sk := [(0,.v),(2,J)]
def o1 := O 3
def B1 (P : PT) : Y k0 := fun x0 x2 H =>
  AC Tryz.prog T0 164 [(Value.int .u64 (IntKind.u64.wrap x2))] H (fun v1 H2 => asI .i64 v1 (fun v3 => AC Tryz.prog T0 163 [x0, (Value.int .i64 0), (Value.int .i64 x2), (Value.int .i64 v3)] H2 (fun v4 H5 => asTup v4 (fun l6 => P (Value.tuple ⟨[]⟩) H5))))
theorem q1 P : Q o1 (ret P) k0 (B1 P) := fun _ _ _ _ => by kernel_rfl
abbrev k1 : Sk := [(0,.v)]
def o2 := O 2
def B2 (P : PT) : Y k1 := fun x0 H =>
  lenK x0 (fun n1 => B1 P x0 (n1 : Int) H)
theorem q2 P : Q o2 (E k0 (B1 P)) k1 (B2 P) := fun _ _ _ => by kernel_rfl
def code : Code := (.seq (R 0 o2) (R 1 o1))
theorem body : Tryz.f104.body = some code := by kernel_rfl
theorem main (P : PT) : ∀ env H, (En 11 k1 (B2 P)) env H → AW Tryz.prog T0 code env H (M (ret P)) :=
  (r_seq (b (q2 P)) (b (q1 P)))
theorem ac (P : PT) (x0 : Value) (H : AHeap) (h : B2 P x0 H) : AC Tryz.prog T0 104 [x0] H P :=
  r_fn T0_ok (c := code) (n := 11) Tryz.func104 body (by kernel_rfl) (main P) (En_mk (x0, ()) (by kernel_rfl) ⟨by kernel_rfl, trivial⟩ h)

end F104
namespace F105
abbrev E := En 14
abbrev Q := QB Tryz.prog T0 14
def O (k : Nat) := ob Tryz.f105 (pth k)
def ret (P : PT) : EP := retE T0 14 Tryz.f105 P
abbrev k0 : Sk := []
def o1 := O 14
def B1 (P : PT) : Y k0 := fun H =>
  P (Value.int .i64 0) H
theorem q1 P : Q o1 (ret P) k0 (B1 P) := fun _ _ => by kernel_rfl
def o2 := O 100
def B2 (P : PT) : Y k0 := fun H =>
  P (Value.int .i64 1) H
theorem q2 P : Q o2 (ret P) k0 (B2 P) := fun _ _ => by kernel_rfl
def o3 := O 412
def B3 (P : PT) : Y k0 := fun H =>
  P (Value.int .i64 2) H
theorem q3 P : Q o3 (ret P) k0 (B3 P) := fun _ _ => by kernel_rfl
abbrev k1 : Sk := [(1,.v),(2,.x)]
def o4 := O 102
def B4 (P : PT) : Y k1 := fun x1 x2 H =>
  ldI .i64 H x2 0 (fun v1 => ld1 H x2 1 (fun v2 => AC Tryz.prog T0 107 [(Value.agg ⟨[(Value.int .i64 v1), v2]⟩), x1] H (fun v3 H4 => asB v3 (fun v5 => pif (!v5) (B3 P H4) (B1 P H4)))))
theorem q4 P : Q o4 (cnd 9 (E k0 (B3 P)) (E k0 (B1 P))) k1 (B4 P) := fun _ _ _ _ => by kernel_rfl
def o5 := O 24
def B5 (P : PT) : Y k1 := fun x1 x2 H =>
  ldI .i64 H x2 0 (fun v1 => ld1 H x2 1 (fun v2 => AC Tryz.prog T0 68 [(Value.agg ⟨[(Value.int .i64 v1), v2]⟩)] H (fun v3 H4 => asB v3 (fun v5 => pif (!v5) (B2 P H4) (B4 P x1 x2 H4)))))
theorem q5 P : Q o5 (cnd 5 (E k0 (B2 P)) (E k1 (B4 P))) k1 (B5 P) := fun _ _ _ _ => by kernel_rfl
abbrev k2 : Sk := [(0,.g [.i,.v]),(1,.v)]
def o6 := O 2
def B6 (P : PT) : Y k2 := fun x0a x0b x1 H =>
  newK H [(Value.int .i64 x0a), x0b] 31 (fun b1 H2 => B5 P x1 b1 H2)
theorem q6 P : Q o6 (E k1 (B5 P)) k2 (B6 P) := fun _ _ _ _ _ => by kernel_rfl
def code : Code := (.seq (R 0 o6) (.seq (.block 0 (.seq (R 1 o5) (.cond (.tmp 5) (.seq (R 2 o2) .ret) (.seq (R 3 o4) (.cond (.tmp 9) (.seq (R 4 o3) .ret) .skip))))) (.seq (R 5 o1) .ret)))
theorem body : Tryz.f105.body = some code := by kernel_rfl
theorem main (P : PT) : ∀ env H, (En 14 k2 (B6 P)) env H → AW Tryz.prog T0 code env H (M (ret P)) :=
  (r_seq (b (q6 P)) (r_seq (r_block (r_seq (b (q5 P)) (r_cond rfl (r_seq (b (q2 P)) r_ret) (r_seq (b (q4 P)) (r_cond rfl (r_seq (b (q3 P)) r_ret) r_skip))))) (r_seq (b (q1 P)) r_ret)))
theorem ac (P : PT) (x0a : Int) (x0b x1 : Value) (H : AHeap) (h : B6 P x0a x0b x1 H) : AC Tryz.prog T0 105 [(Value.agg ⟨[(Value.int .i64 x0a), x0b]⟩), x1] H P :=
  r_fn T0_ok (c := code) (n := 14) Tryz.func105 body (by kernel_rfl) (main P) (En_mk (x0a, x0b, x1, ()) (by kernel_rfl) ⟨by kernel_rfl, by kernel_rfl, trivial⟩ h)

end F105
namespace F106
abbrev E := En 92
abbrev Q := QB Tryz.prog T0 92
def O (k : Nat) := ob Tryz.f106 (pth k)
def ret (P : PT) : EP := retE T0 92 Tryz.f106 P
abbrev k0 : Sk := [(6,.v)]
def o1 := O 30
def B1 (P : PT) : Y k0 := fun x6 H =>
  P x6 H
theorem q1 P : Q o1 (ret P) k0 (B1 P) := fun _ _ _ => by kernel_rfl
abbrev k1 : Sk := [(1,.v),(2,.x),(5,.v),(6,.v),(7,J)]
def o3 := O 467
def B3 (P : PT) (N2 : Y k1) : Y k1 := fun x1 x2 x5 x6 x7 H =>
  N2 x1 x2 x5 x6 (IntKind.i64.wrap (x7 + 1)) H
theorem q3 P N2 : Q o3 (E k1 N2) k1 (B3 P N2) := fun _ _ _ _ _ _ _ => by kernel_rfl
abbrev k2 : Sk := [(1,.v),(2,.x),(5,.v),(6,.v),(7,J),(8,.v)]
def o4 := O 7463
def B4 (P : PT) (N2 : Y k1) : Y k2 := fun x1 x2 x5 x6 x7 x8 H =>
  pif (Value.oneCell' x8) (newK H [x8] 42 (fun b1 H2 => apK T0 42 H2 x6 (Value.slice (some ⟨b1, 0, none⟩) 1 (1 + 1)) (fun v3 H4 => B3 P N2 x1 x2 x5 v3 x7 H4))) False
theorem q4 P N2 : Q o4 (E k1 (B3 P N2)) k2 (B4 P N2) := fun _ _ _ _ _ _ _ _ => by kernel_rfl
abbrev k3 : Sk := [(1,.v),(2,.x),(5,.v),(6,.v),(7,J),(8,.v),(9,J),(10,J)]
def o6 := O 3820639
def B6 (P : PT) (N2 : Y k1) (N5 : Y k3) : Y k3 := fun x1 x2 x5 x6 x7 x8 x9 x10 H =>
  ldI .i64 H x2 0 (fun v1 => ld1 H x2 1 (fun v2 => AC Tryz.prog T0 165 [(Value.agg ⟨[(Value.int .i64 v1), v2]⟩), (Value.int .i64 x9), (Value.int .i64 x10)] H (fun v3 H4 => asI .i64 v3 (fun v5 => N5 x1 x2 x5 x6 x7 x8 x9 v5 H4))))
theorem q6 P N2 N5 : Q o6 (E k3 N5) k3 (B6 P N2 N5) := fun _ _ _ _ _ _ _ _ _ _ => by kernel_rfl
abbrev k4 : Sk := [(1,.v),(2,.x),(5,.v),(6,.v),(7,J),(8,.v),(10,J),(12,J)]
def o7 := O 3820638
def B7 (P : PT) (N2 : Y k1) (N5 : Y k3) : Y k4 := fun x1 x2 x5 x6 x7 x8 x10 x12 H =>
  B6 P N2 N5 x1 x2 x5 x6 x7 x8 x12 x10 H
theorem q7 P N2 N5 : Q o7 (E k3 (B6 P N2 N5)) k4 (B7 P N2 N5) := fun _ _ _ _ _ _ _ _ _ _ => by kernel_rfl
abbrev k5 : Sk := [(1,.v),(2,.x),(5,.v),(6,.v),(7,J),(8,.v),(9,J),(10,J),(11,.v),(12,J),(13,J)]
def o9 := O 61130195
def B9 (P : PT) (N2 : Y k1) (N5 : Y k3) (N8 : Y k5) : Y k5 := fun x1 x2 x5 x6 x7 x8 x9 x10 x11 x12 x13 H =>
  N8 x1 x2 x5 x6 x7 x8 x9 x10 x11 x12 (IntKind.i64.wrap (x13 + 1)) H
theorem q9 P N2 N5 N8 : Q o9 (E k5 N8) k5 (B9 P N2 N5 N8) := fun _ _ _ _ _ _ _ _ _ _ _ _ _ => by kernel_rfl
abbrev k6 : Sk := [(1,.v),(2,.x),(5,.v),(6,.v),(7,J),(8,.v),(9,J),(10,J),(11,.v),(13,J)]
def o10 := O 489041554
def B10 (P : PT) (N2 : Y k1) (N5 : Y k3) (N8 : Y k5) : Y k6 := fun x1 x2 x5 x6 x7 x8 x9 x10 x11 x13 H =>
  idxK x11 x13 1 (fun b1 o2 => ldI .i64 H b1 o2 (fun v3 => B9 P N2 N5 N8 x1 x2 x5 x6 x7 x8 x9 x10 x11 v3 x13 H))
theorem q10 P N2 N5 N8 : Q o10 (E k5 (B9 P N2 N5 N8)) k6 (B10 P N2 N5 N8) := fun _ _ _ _ _ _ _ _ _ _ _ _ => by kernel_rfl
def o11 := O 244520776
def B11 (P : PT) (N2 : Y k1) (N5 : Y k3) (N8 : Y k5) : Y k5 := fun x1 x2 x5 x6 x7 x8 x9 x10 x11 x12 x13 H =>
  idxK x11 x13 1 (fun b1 o2 => ldI .i64 H b1 o2 (fun v3 => pif ((v3 : Int) != x9) (idxK x11 x13 1 (fun b4 o5 => ldI .i64 H b4 o5 (fun v6 => AC Tryz.prog T0 158 [x1, (Value.int .i64 v6)] H (fun v7 H8 => asB v7 (fun v9 => pif (!v9) (B10 P N2 N5 N8 x1 x2 x5 x6 x7 x8 x9 x10 x11 x13 H8) (B9 P N2 N5 N8 x1 x2 x5 x6 x7 x8 x9 x10 x11 x12 x13 H8)))))) (B9 P N2 N5 N8 x1 x2 x5 x6 x7 x8 x9 x10 x11 x12 x13 H)))
theorem q11 P N2 N5 N8 : Q o11 (cnd 77 (E k6 (B10 P N2 N5 N8)) (E k5 (B9 P N2 N5 N8))) k5 (B11 P N2 N5 N8) := fun _ _ _ _ _ _ _ _ _ _ _ _ _ => by kernel_rfl
def o12 := O 61130192
def B12 (P : PT) (N2 : Y k1) (N5 : Y k3) (N8 : Y k5) : Y k5 := fun x1 x2 x5 x6 x7 x8 x9 x10 x11 x12 x13 H =>
  pif (decide ((x13 : Int) < 3)) (B11 P N2 N5 N8 x1 x2 x5 x6 x7 x8 x9 x10 x11 x12 x13 H) (B7 P N2 N5 x1 x2 x5 x6 x7 x8 x10 x12 H)
theorem q12 P N2 N5 N8 : Q o12 (cnd 60 (E k5 (B11 P N2 N5 N8)) (E k4 (B7 P N2 N5))) k5 (B12 P N2 N5 N8) := fun _ _ _ _ _ _ _ _ _ _ _ _ _ => by kernel_rfl
def L8 (P : PT) (N2 : Y k1) (N5 : Y k3) : Y k5 := fun x1 x2 x5 x6 x7 x8 x9 x10 x11 x12 x13 H =>
  ∃ (I : Y k5) (μ : NTy k5 (AHeap → Nat)), I x1 x2 x5 x6 x7 x8 x9 x10 x11 x12 x13 H ∧ ∀ y1 y2 y5 y6 y7 y8 y9 y10 y11 y12 y13 G, I y1 y2 y5 y6 y7 y8 y9 y10 y11 y12 y13 G → B12 P N2 N5 (fun z1 z2 z5 z6 z7 z8 z9 z10 z11 z12 z13 G' => I z1 z2 z5 z6 z7 z8 z9 z10 z11 z12 z13 G' ∧ μ z1 z2 z5 z6 z7 z8 z9 z10 z11 z12 z13 G' < μ y1 y2 y5 y6 y7 y8 y9 y10 y11 y12 y13 G) y1 y2 y5 y6 y7 y8 y9 y10 y11 y12 y13 G
theorem l8 P N2 N5 : LQ k5 (L8 P N2 N5) (B12 P N2 N5) := fun ⟨_,_,_,_,_,_,_,_,_,_,_,_⟩ _ ⟨I, μ, h0, hI⟩ => ⟨apT _ I, apT _ μ, h0, fun ⟨_,_,_,_,_,_,_,_,_,_,_,_⟩ _ h => hI _ _ _ _ _ _ _ _ _ _ _ _  h⟩
abbrev k7 : Sk := [(1,.v),(2,.x),(5,.v),(6,.v),(7,J),(8,.v),(9,J),(10,J),(11,.v),(12,J)]
def o13 := O 3820636
def B13 (P : PT) (N2 : Y k1) (N5 : Y k3) : Y k7 := fun x1 x2 x5 x6 x7 x8 x9 x10 x11 x12 H =>
  L8 P N2 N5 x1 x2 x5 x6 x7 x8 x9 x10 x11 x12 0 H
theorem q13 P N2 N5 : Q o13 (E k5 (L8 P N2 N5)) k7 (B13 P N2 N5) := fun _ _ _ _ _ _ _ _ _ _ _ _ => by kernel_rfl
def o14 := O 955158
def B14 (P : PT) (N2 : Y k1) (N5 : Y k3) : Y k3 := fun x1 x2 x5 x6 x7 x8 x9 x10 H =>
  ldI .i64 H x2 0 (fun v1 => ld1 H x2 1 (fun v2 => AC Tryz.prog T0 132 [(Value.agg ⟨[(Value.int .i64 v1), v2]⟩), (Value.int .i64 x10)] H (fun v3 H4 => B13 P N2 N5 x1 x2 x5 x6 x7 x8 x9 x10 v3 x9 H4)))
theorem q14 P N2 N5 : Q o14 (E k7 (B13 P N2 N5)) k3 (B14 P N2 N5) := fun _ _ _ _ _ _ _ _ _ _ => by kernel_rfl
def o15 := O 477578
def B15 (P : PT) (N2 : Y k1) (N5 : Y k3) : Y k3 := fun x1 x2 x5 x6 x7 x8 x9 x10 H =>
  newK H [(Value.int .i64 x9)] 2 (fun b1 H2 => apK T0 2 H2 x8 (Value.slice (some ⟨b1, 0, none⟩) 1 (1 + 1)) (fun v3 H4 => B14 P N2 N5 x1 x2 x5 x6 x7 v3 x9 x10 H4))
theorem q15 P N2 N5 : Q o15 (E k3 (B14 P N2 N5)) k3 (B15 P N2 N5) := fun _ _ _ _ _ _ _ _ _ _ => by kernel_rfl
def o16 := O 238788
def B16 (P : PT) (N2 : Y k1) (N5 : Y k3) : Y k3 := fun x1 x2 x5 x6 x7 x8 x9 x10 H =>
  idxK x5 x9 1 (fun b1 o2 => stK H b1 o2 [(Value.bool true)] (fun H3 => B15 P N2 N5 x1 x2 x5 x6 x7 x8 x9 x10 H3))
theorem q16 P N2 N5 : Q o16 (E k3 (B15 P N2 N5)) k3 (B16 P N2 N5) := fun _ _ _ _ _ _ _ _ _ _ => by kernel_rfl
def o17 := O 119392
def B17 (P : PT) (N2 : Y k1) (N5 : Y k3) : Y k3 := fun x1 x2 x5 x6 x7 x8 x9 x10 H =>
  idxK x5 x9 1 (fun b1 o2 => ld1 H b1 o2 (fun v4 => asB v4 (fun v3 => pif (!v3) (B16 P N2 N5 x1 x2 x5 x6 x7 x8 x9 x10 H) (B4 P N2 x1 x2 x5 x6 x7 x8 H))))
theorem q17 P N2 N5 : Q o17 (cnd 47 (E k3 (B16 P N2 N5)) (E k2 (B4 P N2))) k3 (B17 P N2 N5) := fun _ _ _ _ _ _ _ _ _ _ => by kernel_rfl
def L5 (P : PT) (N2 : Y k1) : Y k3 := fun x1 x2 x5 x6 x7 x8 x9 x10 H =>
  ∃ (I : Y k3) (μ : NTy k3 (AHeap → Nat)), I x1 x2 x5 x6 x7 x8 x9 x10 H ∧ ∀ y1 y2 y5 y6 y7 y8 y9 y10 G, I y1 y2 y5 y6 y7 y8 y9 y10 G → B17 P N2 (fun z1 z2 z5 z6 z7 z8 z9 z10 G' => I z1 z2 z5 z6 z7 z8 z9 z10 G' ∧ μ z1 z2 z5 z6 z7 z8 z9 z10 G' < μ y1 y2 y5 y6 y7 y8 y9 y10 G) y1 y2 y5 y6 y7 y8 y9 y10 G
theorem l5 P N2 : LQ k3 (L5 P N2) (B17 P N2) := fun ⟨_,_,_,_,_,_,_,_,_⟩ _ ⟨I, μ, h0, hI⟩ => ⟨apT _ I, apT _ μ, h0, fun ⟨_,_,_,_,_,_,_,_,_⟩ _ h => hI _ _ _ _ _ _ _ _ _  h⟩
def o18 := O 3730
def B18 (P : PT) (N2 : Y k1) : Y k1 := fun x1 x2 x5 x6 x7 H =>
  ld1 H x2 1 (fun v1 => idxK v1 x7 2 (fun b2 o3 => ldI .i64 H b2 (o3 + 1) (fun v4 => newK H [] 2 (fun b5 H6 => L5 P N2 x1 x2 x5 x6 x7 (Value.slice (some ⟨b5, 0, none⟩) 0 (0 + 1)) x7 v4 H6))))
theorem q18 (P : PT) (N2 : Y k1) : QD Tryz.prog T0 92 o18 [(1, false), (2, false), (3, false), (4, false), (5, false), (6, false), (7, false), (0, false), (8, false), (9, false), (10, false)] (En 92 k3 (L5 P N2)) k1 (B18 P N2) := fun _ _ _ _ _ _ _  => by kernel_rfl
def o19 := O 3728
def B19 (P : PT) (N2 : Y k1) : Y k1 := fun x1 x2 x5 x6 x7 H =>
  idxK x5 x7 1 (fun b1 o2 => ld1 H b1 o2 (fun v4 => asB v4 (fun v3 => pif v3 (B3 P N2 x1 x2 x5 x6 x7 H) (AC Tryz.prog T0 158 [x1, (Value.int .i64 x7)] H (fun v5 H6 => asB v5 (fun v7 => pif v7 (B3 P N2 x1 x2 x5 x6 x7 H6) (B18 P N2 x1 x2 x5 x6 x7 H6)))))))
theorem q19 P N2 : Q o19 (cnd 34 (E k1 (B3 P N2)) (E k1 (B18 P N2))) k1 (B19 P N2) := fun _ _ _ _ _ _ _ => by kernel_rfl
def o20 := O 464
def B20 (P : PT) (N2 : Y k1) : Y k1 := fun x1 x2 x5 x6 x7 H =>
  ld1 H x2 1 (fun v1 => lenK v1 (fun n2 => pif (decide ((x7 : Int) < (n2 : Int))) (B19 P N2 x1 x2 x5 x6 x7 H) (B1 P x6 H)))
theorem q20 P N2 : Q o20 (cnd 23 (E k1 (B19 P N2)) (E k0 (B1 P))) k1 (B20 P N2) := fun _ _ _ _ _ _ _ => by kernel_rfl
def L2 (P : PT) : Y k1 := fun x1 x2 x5 x6 x7 H =>
  ∃ (I : Y k1) (μ : NTy k1 (AHeap → Nat)), I x1 x2 x5 x6 x7 H ∧ ∀ y1 y2 y5 y6 y7 G, I y1 y2 y5 y6 y7 G → B20 P (fun z1 z2 z5 z6 z7 G' => I z1 z2 z5 z6 z7 G' ∧ μ z1 z2 z5 z6 z7 G' < μ y1 y2 y5 y6 y7 G) y1 y2 y5 y6 y7 G
theorem l2 P : LQ k1 (L2 P) (B20 P) := fun ⟨_,_,_,_,_,_⟩ _ ⟨I, μ, h0, hI⟩ => ⟨apT _ I, apT _ μ, h0, fun ⟨_,_,_,_,_,_⟩ _ h => hI _ _ _ _ _ _  h⟩
abbrev k8 : Sk := [(1,.v),(2,.x),(5,.v),(6,.v)]
def o21 := O 28
def B21 (P : PT) : Y k8 := fun x1 x2 x5 x6 H =>
  L2 P x1 x2 x5 x6 0 H
theorem q21 P : Q o21 (E k1 (L2 P)) k8 (B21 P) := fun _ _ _ _ _ _ => by kernel_rfl
abbrev k9 : Sk := [(1,.v),(2,.x)]
def o22 := O 6
def B22 (P : PT) : Y k9 := fun x1 x2 H =>
  ld1 H x2 1 (fun v1 => lenK v1 (fun n2 => mkR H 1 4 [(Value.bool false)] (n2 : Int) (n2 : Int) (fun v4 H3 => newK H3 [] 42 (fun b5 H6 => B21 P x1 x2 v4 (Value.slice (some ⟨b5, 0, none⟩) 0 (0 + 1)) H6))))
theorem q22 P : Q o22 (E k8 (B21 P)) k9 (B22 P) := fun _ _ _ _ => by kernel_rfl
abbrev k10 : Sk := [(0,.g [.i,.v]),(1,.v)]
def o23 := O 2
def B23 (P : PT) : Y k10 := fun x0a x0b x1 H =>
  newK H [(Value.int .i64 x0a), x0b] 31 (fun b1 H2 => B22 P x1 b1 H2)
theorem q23 P : Q o23 (E k9 (B22 P)) k10 (B23 P) := fun _ _ _ _ _ => by kernel_rfl
def code : Code := (.seq (R 0 o23) (.seq (R 1 o22) (.seq (.seq (R 2 o21) (.block 0 (.loop (.seq (.seq (R 3 o20) (.cond (.tmp 23) .skip (.exit 0))) (.seq (.block 1 (.seq (.seq (R 5 o19) (.cond (.tmp 34) (.exit 1) .skip)) (.seq (.region 6 ⟨o18⟩ true) (.seq (.block 2 (.loop (.seq (.seq (R 7 o17) (.cond (.tmp 47) .skip (.exit 2))) (.block 3 (.seq (R 8 o16) (.seq (R 9 o15) (.seq (R 10 o14) (.seq (.seq (R 11 o13) (.block 4 (.loop (.seq (.seq (R 12 o12) (.cond (.tmp 60) .skip (.exit 4))) (.seq (.block 5 (.seq (R 14 o11) (.cond (.tmp 77) (R 15 o10) .skip))) (R 13 o9)))))) (.seq (R 16 o7) (R 17 o6)))))))))) (R 18 o4))))) (R 4 o3)))))) (.seq (R 19 o1) .ret))))
theorem body : Tryz.f106.body = some code := by kernel_rfl
theorem main (P : PT) : ∀ env H, (En 92 k10 (B23 P)) env H → AW Tryz.prog T0 code env H (M (ret P)) :=
  (r_seq (b (q23 P)) (r_seq (b (q22 P)) (r_seq (r_seq (b (q21 P)) (r_block (rL (l2 P) (fun N2 => (r_seq (r_seq (b (q20 P N2)) (r_cond rfl r_skip (r_exit (fun _ _ h => h)))) (r_seq (r_block (r_seq (r_seq (b (q19 P N2)) (r_cond rfl (r_exit (fun _ _ h => h)) r_skip)) (r_seq (rD T0_ok mixed [(1, false), (2, false), (3, false), (4, false), (5, false), (6, false), (7, false), (0, false), (8, false), (9, false), (10, false)] (by kernel_rfl) (q18 P N2)) (r_seq (r_block (rL (l5 P N2) (fun N5 => (r_seq (r_seq (b (q17 P N2 N5)) (r_cond rfl r_skip (r_exit (fun _ _ h => h)))) (r_block (r_seq (b (q16 P N2 N5)) (r_seq (b (q15 P N2 N5)) (r_seq (b (q14 P N2 N5)) (r_seq (r_seq (b (q13 P N2 N5)) (r_block (rL (l8 P N2 N5) (fun N8 => (r_seq (r_seq (b (q12 P N2 N5 N8)) (r_cond rfl r_skip (r_exit (fun _ _ h => h)))) (r_seq (r_block (r_seq (b (q11 P N2 N5 N8)) (r_cond rfl (b (q10 P N2 N5 N8)) r_skip))) (b (q9 P N2 N5 N8)))))))) (r_seq (b (q7 P N2 N5)) (b (q6 P N2 N5)))))))))))) (b (q4 P N2)))))) (b (q3 P N2)))))))) (r_seq (b (q1 P)) r_ret))))
theorem ac (P : PT) (x0a : Int) (x0b x1 : Value) (H : AHeap) (h : B23 P x0a x0b x1 H) : AC Tryz.prog T0 106 [(Value.agg ⟨[(Value.int .i64 x0a), x0b]⟩), x1] H P :=
  r_fn T0_ok (c := code) (n := 92) Tryz.func106 body (by kernel_rfl) (main P) (En_mk (x0a, x0b, x1, ()) (by kernel_rfl) ⟨by kernel_rfl, by kernel_rfl, trivial⟩ h)

end F106
namespace F107
abbrev E := En 71
abbrev Q := QB Tryz.prog T0 71
def O (k : Nat) := ob Tryz.f107 (pth k)
def ret (P : PT) : EP := retE T0 71 Tryz.f107 P
abbrev k0 : Sk := [(1,.v),(2,.x)]
def o1 := O 30
def B1 (P : PT) : Y k0 := fun x1 x2 H =>
  lenK x1 (fun n1 => ldI .i64 H x2 0 (fun v2 => P (Value.bool ((IntKind.i64.wrap (2 * (n1 : Int)) : Int) == v2)) H))
theorem q1 P : Q o1 (ret P) k0 (B1 P) := fun _ _ _ _ => by kernel_rfl
abbrev k1 : Sk := [(1,.v),(2,.x),(5,.v),(6,J)]
def o3 := O 467
def B3 (P : PT) (N2 : Y k1) : Y k1 := fun x1 x2 x5 x6 H =>
  N2 x1 x2 x5 (IntKind.i64.wrap (x6 + 1)) H
theorem q3 P N2 : Q o3 (E k1 N2) k1 (B3 P N2) := fun _ _ _ _ _ _ => by kernel_rfl
abbrev k2 : Sk := [(1,.v),(2,.x),(5,.v),(6,J),(7,J)]
def o5 := O 59699
def B5 (P : PT) (N2 : Y k1) (N4 : Y k2) : Y k2 := fun x1 x2 x5 x6 x7 H =>
  N4 x1 x2 x5 x6 (IntKind.i64.wrap (x7 + 1)) H
theorem q5 P N2 N4 : Q o5 (E k2 N4) k2 (B5 P N2 N4) := fun _ _ _ _ _ _ _ => by kernel_rfl
abbrev k3 : Sk := [(1,.v),(2,.x),(5,.v),(6,J),(7,J),(8,J)]
def o6 := O 477587
def B6 (P : PT) (N2 : Y k1) (N4 : Y k2) : Y k3 := fun x1 x2 x5 x6 x7 x8 H =>
  idxK x5 x8 1 (fun b1 o2 => stK H b1 o2 [(Value.bool true)] (fun H3 => B5 P N2 N4 x1 x2 x5 x6 x7 H3))
theorem q6 P N2 N4 : Q o6 (E k2 (B5 P N2 N4)) k3 (B6 P N2 N4) := fun _ _ _ _ _ _ _ _ => by kernel_rfl
abbrev k4 : Sk := []
def o7 := O 3820692
def B7 (P : PT) (N2 : Y k1) (N4 : Y k2) : Y k4 := fun H =>
  P (Value.bool false) H
theorem q7 P N2 N4 : Q o7 (ret P) k4 (B7 P N2 N4) := fun _ _ => by kernel_rfl
def o8 := O 955172
def B8 (P : PT) (N2 : Y k1) (N4 : Y k2) : Y k3 := fun x1 x2 x5 x6 x7 x8 H =>
  idxK x5 x8 1 (fun b1 o2 => ld1 H b1 o2 (fun v4 => asB v4 (fun v3 => pif v3 (B7 P N2 N4 H) (B6 P N2 N4 x1 x2 x5 x6 x7 x8 H))))
theorem q8 P N2 N4 : Q o8 (cnd 61 (E k4 (B7 P N2 N4)) (E k3 (B6 P N2 N4))) k3 (B8 P N2 N4) := fun _ _ _ _ _ _ _ _ => by kernel_rfl
def o9 := O 238792
def B9 (P : PT) (N2 : Y k1) (N4 : Y k2) : Y k2 := fun x1 x2 x5 x6 x7 H =>
  ld1 H x2 1 (fun v1 => idxK x1 x6 1 (fun b2 o3 => ldI .i64 H b2 o3 (fun v4 => idxK v1 v4 2 (fun b5 o6 => bndK x7 2 (ldI .i64 H b5 (o6 + Int.toNat x7 * 1) (fun v7 => B8 P N2 N4 x1 x2 x5 x6 x7 v7 H))))))
theorem q9 (P : PT) (N2 : Y k1) (N4 : Y k2) : QD Tryz.prog T0 71 o9 [(0, false), (1, false), (2, false), (3, false), (4, false), (5, false), (6, false), (7, false), (8, false), (9, false), (10, false)] (En 71 k3 (B8 P N2 N4)) k2 (B9 P N2 N4) := fun _ _ _ _ _ _ _  => by kernel_rfl
def o10 := O 59696
def B10 (P : PT) (N2 : Y k1) (N4 : Y k2) : Y k2 := fun x1 x2 x5 x6 x7 H =>
  pif (decide ((x7 : Int) < 2)) (B9 P N2 N4 x1 x2 x5 x6 x7 H) (B3 P N2 x1 x2 x5 x6 H)
theorem q10 P N2 N4 : Q o10 (cnd 45 (E k2 (B9 P N2 N4)) (E k1 (B3 P N2))) k2 (B10 P N2 N4) := fun _ _ _ _ _ _ _ => by kernel_rfl
def L4 (P : PT) (N2 : Y k1) : Y k2 := fun x1 x2 x5 x6 x7 H =>
  ∃ (I : Y k2) (μ : NTy k2 (AHeap → Nat)), I x1 x2 x5 x6 x7 H ∧ ∀ y1 y2 y5 y6 y7 G, I y1 y2 y5 y6 y7 G → B10 P N2 (fun z1 z2 z5 z6 z7 G' => I z1 z2 z5 z6 z7 G' ∧ μ z1 z2 z5 z6 z7 G' < μ y1 y2 y5 y6 y7 G) y1 y2 y5 y6 y7 G
theorem l4 P N2 : LQ k2 (L4 P N2) (B10 P N2) := fun ⟨_,_,_,_,_,_⟩ _ ⟨I, μ, h0, hI⟩ => ⟨apT _ I, apT _ μ, h0, fun ⟨_,_,_,_,_,_⟩ _ h => hI _ _ _ _ _ _  h⟩
def o11 := O 3730
def B11 (P : PT) (N2 : Y k1) : Y k1 := fun x1 x2 x5 x6 H =>
  L4 P N2 x1 x2 x5 x6 0 H
theorem q11 P N2 : Q o11 (E k2 (L4 P N2)) k1 (B11 P N2) := fun _ _ _ _ _ _ => by kernel_rfl
def o12 := O 14916
def B12 (P : PT) (N2 : Y k1) : Y k4 := fun H =>
  P (Value.bool false) H
theorem q12 P N2 : Q o12 (ret P) k4 (B12 P N2) := fun _ _ => by kernel_rfl
def o13 := O 3728
def B13 (P : PT) (N2 : Y k1) : Y k1 := fun x1 x2 x5 x6 H =>
  idxK x1 x6 1 (fun b1 o2 => ldI .i64 H b1 o2 (fun v3 => ld1 H x2 1 (fun v4 => lenK v4 (fun n5 => AC Tryz.prog T0 91 [(Value.int .i64 v3), (Value.int .i64 0), (Value.int .i64 (IntKind.i64.wrap ((n5 : Int) - 1)))] H (fun v6 H7 => asB v6 (fun v8 => pif (!v8) (B12 P N2 H7) (pif (decide ((x6 : Int) > 0)) (idxK x1 x6 1 (fun b9 o10 => ldI .i64 H7 b9 o10 (fun v11 => idxK x1 (IntKind.i64.wrap (x6 - 1)) 1 (fun b12 o13 => ldI .i64 H7 b12 o13 (fun v14 => pif (decide ((v11 : Int) ≤ v14)) (B12 P N2 H7) (B11 P N2 x1 x2 x5 x6 H7)))))) (B11 P N2 x1 x2 x5 x6 H7))))))))
theorem q13 (P : PT) (N2 : Y k1) : QD Tryz.prog T0 71 o13 [(0, false), (1, false), (2, false), (3, false), (4, false), (5, false), (6, false), (7, false), (8, false), (9, false), (10, false), (11, false), (12, false), (13, false), (14, false), (15, false), (16, false), (17, false), (18, false), (19, false), (20, false), (21, false), (22, false), (23, false), (24, false), (25, false)] (cnd 43 (En 71 k4 (B12 P N2)) (En 71 k1 (B11 P N2))) k1 (B13 P N2) := fun _ _ _ _ _ _  => by kernel_rfl
def o14 := O 464
def B14 (P : PT) (N2 : Y k1) : Y k1 := fun x1 x2 x5 x6 H =>
  lenK x1 (fun n1 => pif (decide ((x6 : Int) < (n1 : Int))) (B13 P N2 x1 x2 x5 x6 H) (B1 P x1 x2 H))
theorem q14 P N2 : Q o14 (cnd 15 (E k1 (B13 P N2)) (E k0 (B1 P))) k1 (B14 P N2) := fun _ _ _ _ _ _ => by kernel_rfl
def L2 (P : PT) : Y k1 := fun x1 x2 x5 x6 H =>
  ∃ (I : Y k1) (μ : NTy k1 (AHeap → Nat)), I x1 x2 x5 x6 H ∧ ∀ y1 y2 y5 y6 G, I y1 y2 y5 y6 G → B14 P (fun z1 z2 z5 z6 G' => I z1 z2 z5 z6 G' ∧ μ z1 z2 z5 z6 G' < μ y1 y2 y5 y6 G) y1 y2 y5 y6 G
theorem l2 P : LQ k1 (L2 P) (B14 P) := fun ⟨_,_,_,_,_⟩ _ ⟨I, μ, h0, hI⟩ => ⟨apT _ I, apT _ μ, h0, fun ⟨_,_,_,_,_⟩ _ h => hI _ _ _ _ _  h⟩
abbrev k5 : Sk := [(1,.v),(2,.x),(5,.v)]
def o15 := O 28
def B15 (P : PT) : Y k5 := fun x1 x2 x5 H =>
  L2 P x1 x2 x5 0 H
theorem q15 P : Q o15 (E k1 (L2 P)) k5 (B15 P) := fun _ _ _ _ _ => by kernel_rfl
def o16 := O 6
def B16 (P : PT) : Y k0 := fun x1 x2 H =>
  ldI .i64 H x2 0 (fun v1 => mkR H 1 4 [(Value.bool false)] v1 v1 (fun v3 H2 => B15 P x1 x2 v3 H2))
theorem q16 P : Q o16 (E k5 (B15 P)) k0 (B16 P) := fun _ _ _ _ => by kernel_rfl
abbrev k6 : Sk := [(0,.g [.i,.v]),(1,.v)]
def o17 := O 2
def B17 (P : PT) : Y k6 := fun x0a x0b x1 H =>
  newK H [(Value.int .i64 x0a), x0b] 31 (fun b1 H2 => B16 P x1 b1 H2)
theorem q17 P : Q o17 (E k0 (B16 P)) k6 (B17 P) := fun _ _ _ _ _ => by kernel_rfl
def code : Code := (.seq (R 0 o17) (.seq (R 1 o16) (.seq (.seq (R 2 o15) (.block 0 (.loop (.seq (.seq (R 3 o14) (.cond (.tmp 15) .skip (.exit 0))) (.seq (.block 1 (.seq (.seq (.region 5 ⟨o13⟩ true) (.cond (.tmp 43) (.seq (R 6 o12) .ret) .skip)) (.seq (R 7 o11) (.block 2 (.loop (.seq (.seq (R 8 o10) (.cond (.tmp 45) .skip (.exit 2))) (.seq (.block 3 (.seq (.region 10 ⟨o9⟩ true) (.seq (.seq (R 11 o8) (.cond (.tmp 61) (.seq (R 12 o7) .ret) .skip)) (R 13 o6)))) (R 9 o5)))))))) (R 4 o3)))))) (.seq (R 14 o1) .ret))))
theorem body : Tryz.f107.body = some code := by kernel_rfl
theorem main (P : PT) : ∀ env H, (En 71 k6 (B17 P)) env H → AW Tryz.prog T0 code env H (M (ret P)) :=
  (r_seq (b (q17 P)) (r_seq (b (q16 P)) (r_seq (r_seq (b (q15 P)) (r_block (rL (l2 P) (fun N2 => (r_seq (r_seq (b (q14 P N2)) (r_cond rfl r_skip (r_exit (fun _ _ h => h)))) (r_seq (r_block (r_seq (r_seq (rD T0_ok mixed [(0, false), (1, false), (2, false), (3, false), (4, false), (5, false), (6, false), (7, false), (8, false), (9, false), (10, false), (11, false), (12, false), (13, false), (14, false), (15, false), (16, false), (17, false), (18, false), (19, false), (20, false), (21, false), (22, false), (23, false), (24, false), (25, false)] (by kernel_rfl) (q13 P N2)) (r_cond rfl (r_seq (b (q12 P N2)) r_ret) r_skip)) (r_seq (b (q11 P N2)) (r_block (rL (l4 P N2) (fun N4 => (r_seq (r_seq (b (q10 P N2 N4)) (r_cond rfl r_skip (r_exit (fun _ _ h => h)))) (r_seq (r_block (r_seq (rD T0_ok mixed [(0, false), (1, false), (2, false), (3, false), (4, false), (5, false), (6, false), (7, false), (8, false), (9, false), (10, false)] (by kernel_rfl) (q9 P N2 N4)) (r_seq (r_seq (b (q8 P N2 N4)) (r_cond rfl (r_seq (b (q7 P N2 N4)) r_ret) r_skip)) (b (q6 P N2 N4))))) (b (q5 P N2 N4)))))))))) (b (q3 P N2)))))))) (r_seq (b (q1 P)) r_ret))))
theorem ac (P : PT) (x0a : Int) (x0b x1 : Value) (H : AHeap) (h : B17 P x0a x0b x1 H) : AC Tryz.prog T0 107 [(Value.agg ⟨[(Value.int .i64 x0a), x0b]⟩), x1] H P :=
  r_fn T0_ok (c := code) (n := 71) Tryz.func107 body (by kernel_rfl) (main P) (En_mk (x0a, x0b, x1, ()) (by kernel_rfl) ⟨by kernel_rfl, by kernel_rfl, trivial⟩ h)

end F107
namespace F108
abbrev E := En 8
abbrev Q := QB Tryz.prog T0 8
def O (k : Nat) := ob Tryz.f108 (pth k)
def ret (P : PT) : EP := retE T0 8 Tryz.f108 P
abbrev k0 : Sk := [(1,.x)]
def o1 := O 6
def B1 (P : PT) : Y k0 := fun x1 H =>
  ld1 H x1 1 (fun v1 => lenK v1 (fun n2 => ((0 : Int) ≤ (n2 : Int)) ∧ (P (Value.int .u64 (IntKind.u64.wrap ((IntKind.u64.wrap (1 * 2 ^ (min (Int.toNat (n2 : Int)) 64))) - 1))) H)))
theorem q1 P : Q o1 (ret P) k0 (B1 P) := fun _ _ _ => by kernel_rfl
abbrev k1 : Sk := [(0,.g [.i,.v])]
def o2 := O 2
def B2 (P : PT) : Y k1 := fun x0a x0b H =>
  newK H [(Value.int .i64 x0a), x0b] 31 (fun b1 H2 => B1 P b1 H2)
theorem q2 P : Q o2 (E k0 (B1 P)) k1 (B2 P) := fun _ _ _ _ => by kernel_rfl
def code : Code := (.seq (R 0 o2) (.seq (R 1 o1) .ret))
theorem body : Tryz.f108.body = some code := by kernel_rfl
theorem main (P : PT) : ∀ env H, (En 8 k1 (B2 P)) env H → AW Tryz.prog T0 code env H (M (ret P)) :=
  (r_seq (b (q2 P)) (r_seq (b (q1 P)) r_ret))
theorem ac (P : PT) (x0a : Int) (x0b : Value) (H : AHeap) (h : B2 P x0a x0b H) : AC Tryz.prog T0 108 [(Value.agg ⟨[(Value.int .i64 x0a), x0b]⟩)] H P :=
  r_fn T0_ok (c := code) (n := 8) Tryz.func108 body (by kernel_rfl) (main P) (En_mk (x0a, x0b, ()) (by kernel_rfl) ⟨by kernel_rfl, trivial⟩ h)

end F108
namespace F109
abbrev E := En 9
abbrev Q := QB Tryz.prog T0 9
def O (k : Nat) := ob Tryz.f109 (pth k)
def ret (P : PT) : EP := retE T0 9 Tryz.f109 P
abbrev k0 : Sk := [(5,.x)]
def o1 := O 30
def B1 (P : PT) : Y k0 := fun x5 H =>
  ld1 H x5 0 (fun v1 => callV Tryz.prog T0 v1 [(Value.int .u64 0), (Value.int .u64 0)] H (fun v2 H3 => asB v2 (fun v4 => P (Value.bool v4) H3)))
theorem q1 P : Q o1 (ret P) k0 (B1 P) := fun _ _ _ => by kernel_rfl
abbrev k1 : Sk := [(2,.x),(3,.x),(5,.x)]
def o2 := O 14
def B2 (P : PT) : Y k1 := fun x2 x3 x5 H =>
  stK H x5 0 [(Value.func (.func 166) ⟨[]⟩ ⟨[(Value.pointer (some ⟨x2, 0, none⟩)), (Value.pointer (some ⟨x3, 0, none⟩)), (Value.pointer (some ⟨x5, 0, none⟩))]⟩)] (fun H1 => B1 P x5 H1)
theorem q2 P : Q o2 (E k0 (B1 P)) k1 (B2 P) := fun _ _ _ _ _ => by kernel_rfl
abbrev k2 : Sk := [(2,.x),(3,.x)]
def o3 := O 6
def B3 (P : PT) : Y k2 := fun x2 x3 H =>
  newK H [Value.nilFunc] 151 (fun b1 H2 => B2 P x2 x3 b1 H2)
theorem q3 P : Q o3 (E k1 (B2 P)) k2 (B3 P) := fun _ _ _ _ => by kernel_rfl
abbrev k3 : Sk := [(0,.g [.i,.v]),(1,.v)]
def o4 := O 2
def B4 (P : PT) : Y k3 := fun x0a x0b x1 H =>
  newK H [(Value.int .i64 x0a), x0b] 31 (fun b1 H2 => pif (Value.oneCell' x1) (newK H2 [x1] 119 (fun b3 H4 => B3 P b1 b3 H4)) False)
theorem q4 P : Q o4 (E k2 (B3 P)) k3 (B4 P) := fun _ _ _ _ _ => by kernel_rfl
def code : Code := (.seq (R 0 o4) (.seq (R 1 o3) (.seq (R 2 o2) (.seq (R 3 o1) .ret))))
theorem body : Tryz.f109.body = some code := by kernel_rfl
theorem main (P : PT) : ∀ env H, (En 9 k3 (B4 P)) env H → AW Tryz.prog T0 code env H (M (ret P)) :=
  (r_seq (b (q4 P)) (r_seq (b (q3 P)) (r_seq (b (q2 P)) (r_seq (b (q1 P)) r_ret))))
theorem ac (P : PT) (x0a : Int) (x0b x1 : Value) (H : AHeap) (h : B4 P x0a x0b x1 H) : AC Tryz.prog T0 109 [(Value.agg ⟨[(Value.int .i64 x0a), x0b]⟩), x1] H P :=
  r_fn T0_ok (c := code) (n := 9) Tryz.func109 body (by kernel_rfl) (main P) (En_mk (x0a, x0b, x1, ()) (by kernel_rfl) ⟨by kernel_rfl, by kernel_rfl, trivial⟩ h)

end F109
namespace F110
abbrev E := En 11
abbrev Q := QB Tryz.prog T0 11
def O (k : Nat) := ob Tryz.f110 (pth k)
def ret (P : PT) : EP := retE T0 11 Tryz.f110 P
abbrev k0 : Sk := []
def o1 := O 30
def B1 (P : PT) : Y k0 := fun H =>
  P (Value.bool false) H
theorem q1 P : Q o1 (ret P) k0 (B1 P) := fun _ _ => by kernel_rfl
abbrev k1 : Sk := [(0,.i .u64),(2,.v)]
def o2 := O 14
def B2 (P : PT) : Y k1 := fun x0 x2 H =>
  asP x2 (fun b1 o2 => ldI .u64 H b1 o2 (fun v3 => asP x2 (fun b4 o5 => stK H b4 o5 [(Value.int .u64 (IntKind.u64.wrap (BitVec.ofInt 64 v3 &&& BitVec.ofInt 64 x0).toNat))] (fun H6 => B1 P H6))))
theorem q2 P : Q o2 (E k0 (B1 P)) k1 (B2 P) := fun _ _ _ _ => by kernel_rfl
abbrev k2 : Sk := [(0,.i .u64),(1,.v),(2,.v)]
def o3 := O 6
def B3 (P : PT) : Y k2 := fun x0 x1 x2 H =>
  asP x1 (fun b1 o2 => ldI .u64 H b1 o2 (fun v3 => asP x1 (fun b4 o5 => stK H b4 o5 [(Value.int .u64 (IntKind.u64.wrap (BitVec.ofInt 64 v3 ||| BitVec.ofInt 64 x0).toNat))] (fun H6 => B2 P x0 x2 H6))))
theorem q3 P : Q o3 (E k1 (B2 P)) k2 (B3 P) := fun _ _ _ _ _ => by kernel_rfl
def o4 := O 2
def B4 (P : PT) : Y k2 := fun x0 x1 x2 H =>
  B3 P x0 x1 x2 H
theorem q4 P : Q o4 (E k2 (B3 P)) k2 (B4 P) := fun _ _ _ _ _ => by kernel_rfl
def code : Code := (.seq (R 0 o4) (.seq (R 1 o3) (.seq (R 2 o2) (.seq (R 3 o1) .ret))))
theorem body : Tryz.f110.body = some code := by kernel_rfl
theorem main (P : PT) : ∀ env H, (En 11 k2 (B4 P)) env H → AW Tryz.prog T0 code env H (M (ret P)) :=
  (r_seq (b (q4 P)) (r_seq (b (q3 P)) (r_seq (b (q2 P)) (r_seq (b (q1 P)) r_ret))))
theorem ac (P : PT) (x0 : Int) (x1 x2 : Value) (H : AHeap) (h : B4 P x0 x1 x2 H) : AC Tryz.prog T0 110 [(Value.int .u64 x0), x1, x2] H P :=
  r_fn T0_ok (c := code) (n := 11) Tryz.func110 body (by kernel_rfl) (main P) (En_mk (x0, x1, x2, ()) (by kernel_rfl) ⟨by kernel_rfl, by kernel_rfl, by kernel_rfl, trivial⟩ h)

end F110
namespace F111
abbrev E := En 10
abbrev Q := QB Tryz.prog T0 10
def O (k : Nat) := ob Tryz.f111 (pth k)
def ret (P : PT) : EP := retE T0 10 Tryz.f111 P
abbrev k0 : Sk := [(1,J),(2,.x)]
def o1 := O 6
def B1 (P : PT) : Y k0 := fun x1 x2 H =>
  ldI .i64 H x2 0 (fun v1 => AC Tryz.prog T0 114 [(Value.int .i64 x1), (Value.int .i64 0), (Value.int .i64 (IntKind.i64.wrap (v1 - 1)))] H (fun v2 H3 => asB v2 (fun v4 => P (Value.bool v4) H3)))
theorem q1 P : Q o1 (ret P) k0 (B1 P) := fun _ _ _ _ => by kernel_rfl
abbrev k1 : Sk := [(0,.g [.i,.v]),(1,J)]
def o2 := O 2
def B2 (P : PT) : Y k1 := fun x0a x0b x1 H =>
  newK H [(Value.int .i64 x0a), x0b] 31 (fun b1 H2 => B1 P x1 b1 H2)
theorem q2 P : Q o2 (E k0 (B1 P)) k1 (B2 P) := fun _ _ _ _ _ => by kernel_rfl
def code : Code := (.seq (R 0 o2) (.seq (R 1 o1) .ret))
theorem body : Tryz.f111.body = some code := by kernel_rfl
theorem main (P : PT) : ∀ env H, (En 10 k1 (B2 P)) env H → AW Tryz.prog T0 code env H (M (ret P)) :=
  (r_seq (b (q2 P)) (r_seq (b (q1 P)) r_ret))
theorem ac (P : PT) (x0a : Int) (x0b : Value) (x1 : Int) (H : AHeap) (h : B2 P x0a x0b x1 H) : AC Tryz.prog T0 111 [(Value.agg ⟨[(Value.int .i64 x0a), x0b]⟩), (Value.int .i64 x1)] H P :=
  r_fn T0_ok (c := code) (n := 10) Tryz.func111 body (by kernel_rfl) (main P) (En_mk (x0a, x0b, x1, ()) (by kernel_rfl) ⟨by kernel_rfl, by kernel_rfl, trivial⟩ h)

end F111
end
end Go.Proofs
