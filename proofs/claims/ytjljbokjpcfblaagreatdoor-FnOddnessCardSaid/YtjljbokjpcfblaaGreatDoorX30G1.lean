import Derived.Test.YtjljbokjpcfblaaGreatDoorX30S
set_option linter.unusedVariables false
set_option maxRecDepth 100000
namespace Go.Proofs
open Go.Abs
noncomputable section
namespace F3
abbrev E:=En 209
abbrev Q:=QB Tryz.prog T0 209
def O (k:Nat):=ob Tryz.f3 (pth k)
def ret (P:PT):EP:=retE T0 209 Tryz.f3 P
abbrev k0:Sk:=[(4,J),(9,J),(28,.b),(29,J),(31,J)]
def o1:=O 1048574
def B1 (P:PT):Y k0:=fun x4 x9 x28 x29 x31 H=>
  pif ((x9:Int)==0) (pif ((x29:Int)==0) (pif (x28==((x4:Int)==0)) (pif ((Int.tmod x4 2:Int)==0) (P (Value.bool (x28==((x31:Int)==0))) H) (P (Value.bool false) H)) (P (Value.bool false) H)) (P (Value.bool false) H)) (P (Value.bool false) H)
theorem q1 P:Q o1 (ret P) k0 (B1 P):=fun _ _ _ _ _ _ _=>by kernel_rfl
abbrev k1:Sk:=[(3,.x),(4,J),(8,.v),(9,J),(28,.b),(29,J)]
def o2:=O 524286
def B2 (P:PT):Y k1:=fun x3 x4 x8 x9 x28 x29 H=>
  ldI .i64 H x3 0 (fun v1=>ld1 H x3 1 (fun v2=>AC Tryz.prog T0 12 [(Value.agg ⟨[(Value.int .i64 v1),v2]⟩),x8] H (fun v3 H4=>tup2 v3 (fun v5 v6=>asI .i64 v6 (fun v8=>B1 P x4 x9 x28 x29 v8 H4)))))
theorem q2 P:Q o2 (E k0 (B1 P)) k1 (B2 P):=fun _ _ _ _ _ _ _ _=>by kernel_rfl
abbrev k2:Sk:=[(3,.x),(4,J),(8,.v),(9,J)]
def o3:=O 262142
def B3 (P:PT):Y k2:=fun x3 x4 x8 x9 H=>
  ldI .i64 H x3 0 (fun v1=>ld1 H x3 1 (fun v2=>AC Tryz.prog T0 17 [(Value.agg ⟨[(Value.int .i64 v1),v2]⟩)] H (fun v3 H4=>tup2 v3 (fun v5 v6=>asB v5 (fun v7=>asI .i64 v6 (fun v8=>B2 P x3 x4 x8 x9 v7 v8 H4))))))
theorem q3 P:Q o3 (E k1 (B2 P)) k2 (B3 P):=fun _ _ _ _ _ _=>by kernel_rfl
abbrev k3:Sk:=[(4,J),(5,J),(9,J)]
def o4:=O 1048564
def B4 (P:PT):Y k3:=fun x4 x5 x9 H=>
  pif ((x4:Int)==0) (P (Value.bool ((x9:Int)==x5)) H) (P (Value.bool false) H)
theorem q4 P:Q o4 (ret P) k3 (B4 P):=fun _ _ _ _ _=>by kernel_rfl
abbrev k4:Sk:=[(3,.x),(4,J),(5,J),(8,.v),(9,J)]
def o5:=O 262140
def B5 (P:PT):Y k4:=fun x3 x4 x5 x8 x9 H=>
  pif ((x5:Int) != 0) (B4 P x4 x5 x9 H) (B3 P x3 x4 x8 x9 H)
theorem q5 P:Q o5 (cnd 167 (E k3 (B4 P)) (E k2 (B3 P))) k4 (B5 P):=fun _ _ _ _ _ _ _=>by kernel_rfl
abbrev k5:Sk:=[(3,.x),(4,J),(5,J),(8,.v),(9,J),(13,.v),(14,.v),(27,J)]
def o7:=O 33553779
def B7 (P:PT) (N6:Y k5):Y k5:=fun x3 x4 x5 x8 x9 x13 x14 x27 H=>
  N6 x3 x4 x5 x8 x9 x13 x14 (IntKind.i64.wrap (x27+1)) H
theorem q7 P N6:Q o7 (E k5 N6) k5 (B7 P N6):=fun _ _ _ _ _ _ _ _ _ _=>by kernel_rfl
abbrev k6:Sk:=[]
def o8:=O 536860452
def B8 (P:PT) (N6:Y k5):Y k6:=fun H=>
  P (Value.bool false) H
theorem q8 P N6:Q o8 (ret P) k6 (B8 P N6):=fun _ _=>by kernel_rfl
def o9:=O 134215112
def B9 (P:PT) (N6:Y k5):Y k5:=fun x3 x4 x5 x8 x9 x13 x14 x27 H=>
  idxK x13 x27 1 (fun b1 o2=>ldI .i64 H b1 o2 (fun v3=>idxK x14 v3 1 (fun b4 o5=>ldI .i64 H b4 o5 (fun v6=>pif ((v6:Int) != 0) (B8 P N6 H) (B7 P N6 x3 x4 x5 x8 x9 x13 x14 x27 H)))))
theorem q9 P N6:Q o9 (cnd 165 (E k6 (B8 P N6)) (E k5 (B7 P N6))) k5 (B9 P N6):=fun _ _ _ _ _ _ _ _ _ _=>by kernel_rfl
def o10:=O 33553776
def B10 (P:PT) (N6:Y k5):Y k5:=fun x3 x4 x5 x8 x9 x13 x14 x27 H=>
  lenK x13 (fun n1=>pif (decide ((x27:Int)<(n1:Int))) (B9 P N6 x3 x4 x5 x8 x9 x13 x14 x27 H) (B5 P x3 x4 x5 x8 x9 H))
theorem q10 P N6:Q o10 (cnd 155 (E k5 (B9 P N6)) (E k4 (B5 P))) k5 (B10 P N6):=fun _ _ _ _ _ _ _ _ _ _=>by kernel_rfl
def L6 (P:PT):Y k5:=fun x3 x4 x5 x8 x9 x13 x14 x27 H=>
  ∃ (I:Y k5) (μ:NTy k5 (AHeap→Nat)),I x3 x4 x5 x8 x9 x13 x14 x27 H∧∀ y3 y4 y5 y8 y9 y13 y14 y27 G,I y3 y4 y5 y8 y9 y13 y14 y27 G→B10 P (fun z3 z4 z5 z8 z9 z13 z14 z27 G'=>I z3 z4 z5 z8 z9 z13 z14 z27 G'∧μ z3 z4 z5 z8 z9 z13 z14 z27 G'<μ y3 y4 y5 y8 y9 y13 y14 y27 G) y3 y4 y5 y8 y9 y13 y14 y27 G
theorem l6 P:LQ k5 (L6 P) (B10 P):=fun ⟨_,_,_,_,_,_,_,_,_⟩ _ ⟨I,μ,h0,hI⟩=>⟨apT _ I,apT _ μ,h0,fun ⟨_,_,_,_,_,_,_,_,_⟩ _ h=>hI _ _ _ _ _ _ _ _ _  h⟩
abbrev k7:Sk:=[(3,.x),(4,J),(5,J),(8,.v),(9,J),(13,.v),(14,.v)]
def o11:=O 2097110
def B11 (P:PT):Y k7:=fun x3 x4 x5 x8 x9 x13 x14 H=>
  L6 P x3 x4 x5 x8 x9 x13 x14 0 H
theorem q11 P:Q o11 (E k5 (L6 P)) k7 (B11 P):=fun _ _ _ _ _ _ _ _ _=>by kernel_rfl
def o12:=O 8388436
def B12 (P:PT):Y k6:=fun H=>
  P (Value.bool false) H
theorem q12 P:Q o12 (ret P) k6 (B12 P):=fun _ _=>by kernel_rfl
abbrev k8:Sk:=[(3,.x),(4,J),(5,J),(8,.v),(9,J),(13,.v),(14,.v),(25,.b),(26,J)]
def o13:=O 2097108
def B13 (P:PT):Y k8:=fun x3 x4 x5 x8 x9 x13 x14 x25 x26 H=>
  pif ((x26:Int) != 0) (B12 P H) (pif (!x25) (B12 P H) (B11 P x3 x4 x5 x8 x9 x13 x14 H))
theorem q13 P:Q o13 (cnd 151 (E k6 (B12 P)) (E k7 (B11 P))) k8 (B13 P):=fun _ _ _ _ _ _ _ _ _ _ _=>by kernel_rfl
abbrev k9:Sk:=[(3,.x),(4,J),(5,J),(8,.v),(9,J),(12,.x),(13,.v),(14,.v)]
def o14:=O 524276
def B14 (P:PT):Y k9:=fun x3 x4 x5 x8 x9 x12 x13 x14 H=>
  ldI .i64 H x12 0 (fun v1=>ld1 H x12 1 (fun v2=>AC Tryz.prog T0 18 [(Value.agg ⟨[(Value.int .i64 v1),v2]⟩),x14] H (fun v3 H4=>tup2 v3 (fun v5 v6=>asB v5 (fun v7=>asI .i64 v6 (fun v8=>B13 P x3 x4 x5 x8 x9 x13 x14 v7 v8 H4))))))
theorem q14 P:Q o14 (E k8 (B13 P)) k9 (B14 P):=fun _ _ _ _ _ _ _ _ _ _=>by kernel_rfl
abbrev k10:Sk:=[(3,.x),(4,J),(5,J),(8,.v),(9,J),(12,.x),(13,.v),(14,.v),(15,J)]
def o15:=O 131068
def B15 (P:PT):Y k10:=fun x3 x4 x5 x8 x9 x12 x13 x14 x15 H=>
  pif ((x15:Int)==0) (B14 P x3 x4 x5 x8 x9 x12 x13 x14 H) (B5 P x3 x4 x5 x8 x9 H)
theorem q15 P:Q o15 (cnd 139 (E k9 (B14 P)) (E k4 (B5 P))) k10 (B15 P):=fun _ _ _ _ _ _ _ _ _ _ _=>by kernel_rfl
def o16:=O 2097068
def B16 (P:PT):Y k6:=fun H=>
  P (Value.bool false) H
theorem q16 P:Q o16 (ret P) k6 (B16 P):=fun _ _=>by kernel_rfl
abbrev k11:Sk:=[(3,.x),(4,J),(5,J),(8,.v),(9,J),(12,.x),(13,.v),(14,.v),(15,J),(19,J),(23,.b),(24,J)]
def o17:=O 524266
def B17 (P:PT):Y k11:=fun x3 x4 x5 x8 x9 x12 x13 x14 x15 x19 x23 x24 H=>
  pif ((x24:Int) != 0) (B16 P H) (pif (decide ((x19:Int)<3)) (B16 P H) (pif (!(x23==((x19:Int)==3))) (B16 P H) (B15 P x3 x4 x5 x8 x9 x12 x13 x14 x15 H)))
theorem q17 P:Q o17 (cnd 137 (E k6 (B16 P)) (E k10 (B15 P))) k11 (B17 P):=fun _ _ _ _ _ _ _ _ _ _ _ _ _ _=>by kernel_rfl
abbrev k12:Sk:=[(3,.x),(4,J),(5,J),(8,.v),(9,J),(12,.x),(13,.v),(14,.v),(15,J),(18,.x),(19,J)]
def o18:=O 262132
def B18 (P:PT):Y k12:=fun x3 x4 x5 x8 x9 x12 x13 x14 x15 x18 x19 H=>
  ldI .i64 H x18 0 (fun v1=>ld1 H x18 1 (fun v2=>AC Tryz.prog T0 17 [(Value.agg ⟨[(Value.int .i64 v1),v2]⟩)] H (fun v3 H4=>tup2 v3 (fun v5 v6=>asB v5 (fun v7=>asI .i64 v6 (fun v8=>B17 P x3 x4 x5 x8 x9 x12 x13 x14 x15 x19 v7 v8 H4))))))
theorem q18 P:Q o18 (E k11 (B17 P)) k12 (B18 P):=fun _ _ _ _ _ _ _ _ _ _ _ _ _=>by kernel_rfl
abbrev k13:Sk:=[(3,.x),(4,J),(5,J),(8,.v),(9,J),(12,.x),(13,.v),(14,.v),(15,J),(18,.x),(19,J),(20,J)]
def o19:=O 65532
def B19 (P:PT):Y k13:=fun x3 x4 x5 x8 x9 x12 x13 x14 x15 x18 x19 x20 H=>
  pif ((x20:Int)==0) (B18 P x3 x4 x5 x8 x9 x12 x13 x14 x15 x18 x19 H) (B15 P x3 x4 x5 x8 x9 x12 x13 x14 x15 H)
theorem q19 P:Q o19 (cnd 120 (E k12 (B18 P)) (E k10 (B15 P))) k13 (B19 P):=fun _ _ _ _ _ _ _ _ _ _ _ _ _ _=>by kernel_rfl
def o20:=O 262124
def B20 (P:PT):Y k6:=fun H=>
  P (Value.bool false) H
theorem q20 P:Q o20 (ret P) k6 (B20 P):=fun _ _=>by kernel_rfl
abbrev k14:Sk:=[(3,.x),(4,J),(5,J),(8,.v),(9,J),(12,.x),(13,.v),(14,.v),(15,J),(18,.x),(19,J),(20,J),(21,J),(22,J)]
def o21:=O 65530
def B21 (P:PT):Y k14:=fun x3 x4 x5 x8 x9 x12 x13 x14 x15 x18 x19 x20 x21 x22 H=>
  pif ((x20:Int) != x22) (B20 P H) (pif ((x19:Int) != x21) (B20 P H) (B19 P x3 x4 x5 x8 x9 x12 x13 x14 x15 x18 x19 x20 H))
theorem q21 P:Q o21 (cnd 118 (E k6 (B20 P)) (E k13 (B19 P))) k14 (B21 P):=fun _ _ _ _ _ _ _ _ _ _ _ _ _ _ _ _=>by kernel_rfl
def o22:=O 32764
def B22 (P:PT):Y k13:=fun x3 x4 x5 x8 x9 x12 x13 x14 x15 x18 x19 x20 H=>
  ldI .i64 H x18 0 (fun v1=>ld1 H x18 1 (fun v2=>AC Tryz.prog T0 16 [(Value.agg ⟨[(Value.int .i64 v1),v2]⟩)] H (fun v3 H4=>tup2 v3 (fun v5 v6=>asI .i64 v5 (fun v7=>asI .i64 v6 (fun v8=>B21 P x3 x4 x5 x8 x9 x12 x13 x14 x15 x18 x19 x20 v7 v8 H4))))))
theorem q22 P:Q o22 (E k14 (B21 P)) k13 (B22 P):=fun _ _ _ _ _ _ _ _ _ _ _ _ _ _=>by kernel_rfl
abbrev k15:Sk:=[(3,.x),(4,J),(5,J),(8,.v),(9,J),(12,.x),(13,.v),(14,.v),(15,J),(18,.x)]
def o23:=O 8190
def B23 (P:PT):Y k15:=fun x3 x4 x5 x8 x9 x12 x13 x14 x15 x18 H=>
  ldI .i64 H x18 0 (fun v1=>ld1 H x18 1 (fun v2=>AC Tryz.prog T0 15 [(Value.agg ⟨[(Value.int .i64 v1),v2]⟩)] H (fun v3 H4=>tup2 v3 (fun v5 v6=>asI .i64 v5 (fun v7=>asI .i64 v6 (fun v8=>B22 P x3 x4 x5 x8 x9 x12 x13 x14 x15 x18 v7 v8 H4))))))
theorem q23 P:Q o23 (E k13 (B22 P)) k15 (B23 P):=fun _ _ _ _ _ _ _ _ _ _ _ _=>by kernel_rfl
abbrev k16:Sk:=[(0,.v),(3,.x),(4,J),(5,J),(8,.v),(9,J),(12,.x),(13,.v),(14,.v),(15,J)]
def o24:=O 4094
def B24 (P:PT):Y k16:=fun x0 x3 x4 x5 x8 x9 x12 x13 x14 x15 H=>
  AC Tryz.prog T0 14 [x0] H (fun v1 H2=>agg2 v1 (fun v3 v4=>asI .i64 v3 (fun v5=>newK H2 [(Value.int .i64 0),(Value.slice none 0 0)] 26 (fun b7 H8=>stK H8 b7 0 [(Value.int .i64 v5),v4] (fun H9=>B23 P x3 x4 x5 x8 x9 x12 x13 x14 x15 b7 H9)))))
theorem q24 P:Q o24 (E k15 (B23 P)) k16 (B24 P):=fun _ _ _ _ _ _ _ _ _ _ _ _=>by kernel_rfl
def o25:=O 32748
def B25 (P:PT):Y k6:=fun H=>
  P (Value.bool false) H
theorem q25 P:Q o25 (ret P) k6 (B25 P):=fun _ _=>by kernel_rfl
abbrev k17:Sk:=[(0,.v),(3,.x),(4,J),(5,J),(8,.v),(9,J),(12,.x),(13,.v),(14,.v),(15,J),(16,.v),(17,J)]
def o26:=O 8186
def B26 (P:PT):Y k17:=fun x0 x3 x4 x5 x8 x9 x12 x13 x14 x15 x16 x17 H=>
  pif ((x15:Int) != x17) (B25 P H) (AC Tryz.prog T0 10 [x14,x16] H (fun v1 H2=>asB v1 (fun v3=>pif (!v3) (B25 P H2) (B24 P x0 x3 x4 x5 x8 x9 x12 x13 x14 x15 H2))))
theorem q26 P:Q o26 (cnd 98 (E k6 (B25 P)) (E k16 (B24 P))) k17 (B26 P):=fun _ _ _ _ _ _ _ _ _ _ _ _ _ _=>by kernel_rfl
def o27:=O 4092
def B27 (P:PT):Y k16:=fun x0 x3 x4 x5 x8 x9 x12 x13 x14 x15 H=>
  ldI .i64 H x12 0 (fun v1=>ld1 H x12 1 (fun v2=>AC Tryz.prog T0 13 [(Value.agg ⟨[(Value.int .i64 v1),v2]⟩),x13] H (fun v3 H4=>tup2 v3 (fun v5 v6=>asI .i64 v6 (fun v8=>B26 P x0 x3 x4 x5 x8 x9 x12 x13 x14 x15 v5 v8 H4)))))
theorem q27 P:Q o27 (E k17 (B26 P)) k16 (B27 P):=fun _ _ _ _ _ _ _ _ _ _ _ _=>by kernel_rfl
abbrev k18:Sk:=[(0,.v),(3,.x),(4,J),(5,J),(8,.v),(9,J),(12,.x),(13,.v)]
def o28:=O 1022
def B28 (P:PT):Y k18:=fun x0 x3 x4 x5 x8 x9 x12 x13 H=>
  ldI .i64 H x12 0 (fun v1=>ld1 H x12 1 (fun v2=>AC Tryz.prog T0 12 [(Value.agg ⟨[(Value.int .i64 v1),v2]⟩),x13] H (fun v3 H4=>tup2 v3 (fun v5 v6=>asI .i64 v6 (fun v8=>B27 P x0 x3 x4 x5 x8 x9 x12 x13 v5 v8 H4)))))
theorem q28 P:Q o28 (E k16 (B27 P)) k18 (B28 P):=fun _ _ _ _ _ _ _ _ _ _=>by kernel_rfl
abbrev k19:Sk:=[(0,.v),(3,.x),(4,J),(5,J),(8,.v),(9,J)]
def o29:=O 510
def B29 (P:PT):Y k19:=fun x0 x3 x4 x5 x8 x9 H=>
  AC Tryz.prog T0 11 [x0] H (fun v1 H2=>tup2 v1 (fun v3 v4=>agg2 v3 (fun v5 v6=>asI .i64 v5 (fun v7=>newK H2 [(Value.int .i64 0),(Value.slice none 0 0)] 26 (fun b10 H11=>stK H11 b10 0 [(Value.int .i64 v7),v6] (fun H12=>B28 P x0 x3 x4 x5 x8 x9 b10 v4 H12))))))
theorem q29 P:Q o29 (E k18 (B28 P)) k19 (B29 P):=fun _ _ _ _ _ _ _ _=>by kernel_rfl
def o30:=O 4076
def B30 (P:PT):Y k6:=fun H=>
  P (Value.bool false) H
theorem q30 P:Q o30 (ret P) k6 (B30 P):=fun _ _=>by kernel_rfl
abbrev k20:Sk:=[(0,.v),(3,.x),(4,J),(5,J),(8,.v),(9,J),(10,.v),(11,J)]
def o31:=O 1018
def B31 (P:PT):Y k20:=fun x0 x3 x4 x5 x8 x9 x10 x11 H=>
  pif ((x9:Int) != x11) (B30 P H) (AC Tryz.prog T0 10 [x8,x10] H (fun v1 H2=>asB v1 (fun v3=>pif (!v3) (B30 P H2) (B29 P x0 x3 x4 x5 x8 x9 H2))))
theorem q31 P:Q o31 (cnd 72 (E k6 (B30 P)) (E k19 (B29 P))) k20 (B31 P):=fun _ _ _ _ _ _ _ _ _ _=>by kernel_rfl
def o32:=O 508
def B32 (P:PT):Y k19:=fun x0 x3 x4 x5 x8 x9 H=>
  ldI .i64 H x3 0 (fun v1=>ld1 H x3 1 (fun v2=>AC Tryz.prog T0 9 [(Value.agg ⟨[(Value.int .i64 v1),v2]⟩)] H (fun v3 H4=>tup2 v3 (fun v5 v6=>asI .i64 v6 (fun v8=>B31 P x0 x3 x4 x5 x8 x9 v5 v8 H4)))))
theorem q32 P:Q o32 (E k20 (B31 P)) k19 (B32 P):=fun _ _ _ _ _ _ _ _=>by kernel_rfl
abbrev k21:Sk:=[(0,.v),(3,.x),(4,J),(5,J)]
def o33:=O 126
def B33 (P:PT):Y k21:=fun x0 x3 x4 x5 H=>
  ldI .i64 H x3 0 (fun v1=>ld1 H x3 1 (fun v2=>AC Tryz.prog T0 8 [(Value.agg ⟨[(Value.int .i64 v1),v2]⟩)] H (fun v3 H4=>tup2 v3 (fun v5 v6=>asI .i64 v6 (fun v8=>B32 P x0 x3 x4 x5 v5 v8 H4)))))
theorem q33 P:Q o33 (E k19 (B32 P)) k21 (B33 P):=fun _ _ _ _ _ _=>by kernel_rfl
def o34:=O 1004
def B34 (P:PT):Y k6:=fun H=>
  P (Value.bool false) H
theorem q34 P:Q o34 (ret P) k6 (B34 P):=fun _ _=>by kernel_rfl
abbrev k22:Sk:=[(0,.v),(3,.x),(4,J),(5,J),(6,J),(7,J)]
def o35:=O 250
def B35 (P:PT):Y k22:=fun x0 x3 x4 x5 x6 x7 H=>
  pif ((x5:Int) != x7) (B34 P H) (pif ((x4:Int) != x6) (B34 P H) (B33 P x0 x3 x4 x5 H))
theorem q35 P:Q o35 (cnd 53 (E k6 (B34 P)) (E k21 (B33 P))) k22 (B35 P):=fun _ _ _ _ _ _ _ _=>by kernel_rfl
def o36:=O 124
def B36 (P:PT):Y k21:=fun x0 x3 x4 x5 H=>
  ldI .i64 H x3 0 (fun v1=>ld1 H x3 1 (fun v2=>AC Tryz.prog T0 7 [(Value.agg ⟨[(Value.int .i64 v1),v2]⟩)] H (fun v3 H4=>tup2 v3 (fun v5 v6=>asI .i64 v5 (fun v7=>asI .i64 v6 (fun v8=>B35 P x0 x3 x4 x5 v7 v8 H4))))))
theorem q36 P:Q o36 (E k22 (B35 P)) k21 (B36 P):=fun _ _ _ _ _ _=>by kernel_rfl
abbrev k23:Sk:=[(0,.v),(3,.x)]
def o37:=O 30
def B37 (P:PT):Y k23:=fun x0 x3 H=>
  ldI .i64 H x3 0 (fun v1=>ld1 H x3 1 (fun v2=>AC Tryz.prog T0 6 [(Value.agg ⟨[(Value.int .i64 v1),v2]⟩)] H (fun v3 H4=>tup2 v3 (fun v5 v6=>asI .i64 v5 (fun v7=>asI .i64 v6 (fun v8=>B36 P x0 x3 v7 v8 H4))))))
theorem q37 P:Q o37 (E k21 (B36 P)) k23 (B37 P):=fun _ _ _ _=>by kernel_rfl
abbrev k24:Sk:=[(0,.v)]
def o38:=O 14
def B38 (P:PT):Y k24:=fun x0 H=>
  AC Tryz.prog T0 5 [x0] H (fun v1 H2=>agg2 v1 (fun v3 v4=>asI .i64 v3 (fun v5=>newK H2 [(Value.int .i64 0),(Value.slice none 0 0)] 26 (fun b7 H8=>stK H8 b7 0 [(Value.int .i64 v5),v4] (fun H9=>B37 P x0 b7 H9)))))
theorem q38 P:Q o38 (E k23 (B37 P)) k24 (B38 P):=fun _ _ _=>by kernel_rfl
def o39:=O 52
def B39 (P:PT):Y k6:=fun H=>
  P (Value.bool true) H
theorem q39 P:Q o39 (ret P) k6 (B39 P):=fun _ _=>by kernel_rfl
def o40:=O 12
def B40 (P:PT):Y k24:=fun x0 H=>
  AC Tryz.prog T0 4 [x0] H (fun v1 H2=>asB v1 (fun v3=>pif v3 (B39 P H2) (B38 P x0 H2)))
theorem q40 P:Q o40 (cnd 33 (E k6 (B39 P)) (E k24 (B38 P))) k24 (B40 P):=fun _ _ _=>by kernel_rfl
def o41:=O 2
def B41 (P:PT):Y k24:=fun x0 H=>
  B40 P x0 H
theorem q41 P:Q o41 (E k24 (B40 P)) k24 (B41 P):=fun _ _ _=>by kernel_rfl
def code:Code:=(.seq (R 0 o41) (.seq (.seq (R 1 o40) (.cond (.tmp 33) (.seq (R 2 o39) .ret) .skip)) (.seq (R 3 o38) (.seq (R 4 o37) (.seq (.seq (R 5 o36) (.seq (R 6 o35) (.cond (.tmp 53) (.seq (R 7 o34) .ret) .skip))) (.seq (R 8 o33) (.seq (.seq (R 9 o32) (.seq (R 10 o31) (.cond (.tmp 72) (.seq (R 11 o30) .ret) .skip))) (.seq (R 12 o29) (.seq (R 13 o28) (.seq (.seq (R 14 o27) (.seq (R 15 o26) (.cond (.tmp 98) (.seq (R 16 o25) .ret) .skip))) (.seq (R 17 o24) (.seq (R 18 o23) (.seq (.seq (R 19 o22) (.seq (R 20 o21) (.cond (.tmp 118) (.seq (R 21 o20) .ret) .skip))) (.seq (.seq (R 22 o19) (.cond (.tmp 120) (.seq (R 23 o18) (.seq (R 24 o17) (.cond (.tmp 137) (.seq (R 25 o16) .ret) .skip))) .skip)) (.seq (.seq (R 26 o15) (.cond (.tmp 139) (.seq (R 27 o14) (.seq (.seq (R 28 o13) (.cond (.tmp 151) (.seq (R 29 o12) .ret) .skip)) (.seq (R 30 o11) (.block 0 (.loop (.seq (.seq (R 31 o10) (.cond (.tmp 155) .skip (.exit 0))) (.seq (.block 1 (.seq (R 33 o9) (.cond (.tmp 165) (.seq (R 34 o8) .ret) .skip))) (R 32 o7)))))))) .skip)) (.seq (.seq (R 35 o5) (.cond (.tmp 167) (.seq (R 36 o4) .ret) .skip)) (.seq (R 37 o3) (.seq (R 38 o2) (.seq (R 39 o1) .ret)))))))))))))))))))
theorem body:Tryz.f3.body=some code:=by kernel_rfl
theorem main (P:PT):∀ env H,(En 209 k24 (B41 P)) env H→AW Tryz.prog T0 code env H (M (ret P)):=
  (r_seq (b (q41 P)) (r_seq (r_seq (b (q40 P)) (r_cond rfl (r_seq (b (q39 P)) r_ret) r_skip)) (r_seq (b (q38 P)) (r_seq (b (q37 P)) (r_seq (r_seq (b (q36 P)) (r_seq (b (q35 P)) (r_cond rfl (r_seq (b (q34 P)) r_ret) r_skip))) (r_seq (b (q33 P)) (r_seq (r_seq (b (q32 P)) (r_seq (b (q31 P)) (r_cond rfl (r_seq (b (q30 P)) r_ret) r_skip))) (r_seq (b (q29 P)) (r_seq (b (q28 P)) (r_seq (r_seq (b (q27 P)) (r_seq (b (q26 P)) (r_cond rfl (r_seq (b (q25 P)) r_ret) r_skip))) (r_seq (b (q24 P)) (r_seq (b (q23 P)) (r_seq (r_seq (b (q22 P)) (r_seq (b (q21 P)) (r_cond rfl (r_seq (b (q20 P)) r_ret) r_skip))) (r_seq (r_seq (b (q19 P)) (r_cond rfl (r_seq (b (q18 P)) (r_seq (b (q17 P)) (r_cond rfl (r_seq (b (q16 P)) r_ret) r_skip))) r_skip)) (r_seq (r_seq (b (q15 P)) (r_cond rfl (r_seq (b (q14 P)) (r_seq (r_seq (b (q13 P)) (r_cond rfl (r_seq (b (q12 P)) r_ret) r_skip)) (r_seq (b (q11 P)) (r_block (rL (l6 P) (fun N6=>(r_seq (r_seq (b (q10 P N6)) (r_cond rfl r_skip (r_exit (fun _ _ h=>h)))) (r_seq (r_block (r_seq (b (q9 P N6)) (r_cond rfl (r_seq (b (q8 P N6)) r_ret) r_skip))) (b (q7 P N6)))))))))) r_skip)) (r_seq (r_seq (b (q5 P)) (r_cond rfl (r_seq (b (q4 P)) r_ret) r_skip)) (r_seq (b (q3 P)) (r_seq (b (q2 P)) (r_seq (b (q1 P)) r_ret)))))))))))))))))))
theorem ac (P:PT) (x0:Value) (H:AHeap) (h:B41 P x0 H):AC Tryz.prog T0 3 [x0] H P:=
  r_fn T0_ok (c:=code) (n:=209) Tryz.func3 body (by kernel_rfl) (main P) (En_mk (x0,()) (by kernel_rfl) ⟨by kernel_rfl,trivial⟩ h)

end F3
namespace F4
abbrev E:=En 6
abbrev Q:=QB Tryz.prog T0 6
def O (k:Nat):=ob Tryz.f4 (pth k)
def ret (P:PT):EP:=retE T0 6 Tryz.f4 P
abbrev k0:Sk:=[(0,.v)]
def o1:=O 6
def B1 (P:PT):Y k0:=fun x0 H=>
  lenK x0 (fun n1=>P (Value.bool (decide (((n1:Int):Int)>4096))) H)
theorem q1 P:Q o1 (ret P) k0 (B1 P):=fun _ _ _=>by kernel_rfl
def o2:=O 2
def B2 (P:PT):Y k0:=fun x0 H=>
  B1 P x0 H
theorem q2 P:Q o2 (E k0 (B1 P)) k0 (B2 P):=fun _ _ _=>by kernel_rfl
def code:Code:=(.seq (R 0 o2) (.seq (R 1 o1) .ret))
theorem body:Tryz.f4.body=some code:=by kernel_rfl
theorem main (P:PT):∀ env H,(En 6 k0 (B2 P)) env H→AW Tryz.prog T0 code env H (M (ret P)):=
  (r_seq (b (q2 P)) (r_seq (b (q1 P)) r_ret))
theorem ac (P:PT) (x0:Value) (H:AHeap) (h:B2 P x0 H):AC Tryz.prog T0 4 [x0] H P:=
  r_fn T0_ok (c:=code) (n:=6) Tryz.func4 body (by kernel_rfl) (main P) (En_mk (x0,()) (by kernel_rfl) ⟨by kernel_rfl,trivial⟩ h)

end F4
namespace F5
abbrev E:=En 6
abbrev Q:=QB Tryz.prog T0 6
def O (k:Nat):=ob Tryz.f5 (pth k)
def ret (P:PT):EP:=retE T0 6 Tryz.f5 P
abbrev k0:Sk:=[(0,.v),(2,.x)]
def o1:=O 6
def B1 (P:PT):Y k0:=fun x0 x2 H=>
  AC Tryz.prog T0 20 [x0] H (fun v1 H2=>AC Tryz.prog T0 19 [v1] H2 (fun v4 H5=>agg2 v4 (fun v6 v7=>asI .i64 v6 (fun v8=>stK H5 x2 0 [(Value.int .i64 v8),v7] (fun H10=>ldI .i64 H10 x2 0 (fun v11=>ld1 H10 x2 1 (fun v12=>P (Value.agg ⟨[(Value.int .i64 v11),v12]⟩) H10)))))))
theorem q1 P:Q o1 (ret P) k0 (B1 P):=fun _ _ _ _=>by kernel_rfl
abbrev k1:Sk:=[(0,.v)]
def o2:=O 2
def B2 (P:PT):Y k1:=fun x0 H=>
  newK H [(Value.int .i64 0),(Value.slice none 0 0)] 26 (fun b1 H2=>B1 P x0 b1 H2)
theorem q2 P:Q o2 (E k0 (B1 P)) k1 (B2 P):=fun _ _ _=>by kernel_rfl
def code:Code:=(.seq (R 0 o2) (.seq (R 1 o1) .ret))
theorem body:Tryz.f5.body=some code:=by kernel_rfl
theorem main (P:PT):∀ env H,(En 6 k1 (B2 P)) env H→AW Tryz.prog T0 code env H (M (ret P)):=
  (r_seq (b (q2 P)) (r_seq (b (q1 P)) r_ret))
theorem ac (P:PT) (x0:Value) (H:AHeap) (h:B2 P x0 H):AC Tryz.prog T0 5 [x0] H P:=
  r_fn T0_ok (c:=code) (n:=6) Tryz.func5 body (by kernel_rfl) (main P) (En_mk (x0,()) (by kernel_rfl) ⟨by kernel_rfl,trivial⟩ h)

end F5
namespace F6
abbrev E:=En 22
abbrev Q:=QB Tryz.prog T0 22
def O (k:Nat):=ob Tryz.f6 (pth k)
def ret (P:PT):EP:=retE T0 22 Tryz.f6 P
abbrev k0:Sk:=[(6,J)]
def o1:=O 62
def B1 (P:PT):Y k0:=fun x6 H=>
  P (Value.tuple ⟨[(Value.int .i64 x6),(Value.int .i64 0)]⟩) H
theorem q1 P:Q o1 (ret P) k0 (B1 P):=fun _ _ _=>by kernel_rfl
abbrev k1:Sk:=[]
def o2:=O 244
def B2 (P:PT):Y k1:=fun H=>
  P (Value.tuple ⟨[(Value.int .i64 0),(Value.int .i64 4)]⟩) H
theorem q2 P:Q o2 (ret P) k1 (B2 P):=fun _ _=>by kernel_rfl
abbrev k2:Sk:=[(6,J),(7,.b)]
def o3:=O 60
def B3 (P:PT):Y k2:=fun x6 x7 H=>
  pif (!x7) (B2 P H) (B1 P x6 H)
theorem q3 P:Q o3 (cnd 20 (E k1 (B2 P)) (E k0 (B1 P))) k2 (B3 P):=fun _ _ _ _=>by kernel_rfl
abbrev k3:Sk:=[(1,.x)]
def o4:=O 14
def B4 (P:PT):Y k3:=fun x1 H=>
  ldI .i64 H x1 0 (fun v1=>ld1 H x1 1 (fun v2=>AC Tryz.prog T0 22 [(Value.agg ⟨[(Value.int .i64 v1),v2]⟩)] H (fun v3 H4=>tup3 v3 (fun v5 v6 v7=>asI .u64 v5 (fun v8=>asI .i64 v6 (fun v9=>asB v7 (fun v10=>B3 P v9 v10 H4)))))))
theorem q4 P:Q o4 (E k2 (B3 P)) k3 (B4 P):=fun _ _ _=>by kernel_rfl
abbrev k4:Sk:=[(4,J)]
def o5:=O 108
def B5 (P:PT):Y k4:=fun x4 H=>
  P (Value.tuple ⟨[(Value.int .i64 0),(Value.int .i64 x4)]⟩) H
theorem q5 P:Q o5 (ret P) k4 (B5 P):=fun _ _ _=>by kernel_rfl
abbrev k5:Sk:=[(1,.x),(4,J)]
def o6:=O 26
def B6 (P:PT):Y k5:=fun x1 x4 H=>
  pif ((x4:Int) != 0) (B5 P x4 H) (B4 P x1 H)
theorem q6 P:Q o6 (cnd 11 (E k4 (B5 P)) (E k3 (B4 P))) k5 (B6 P):=fun _ _ _ _=>by kernel_rfl
def o7:=O 12
def B7 (P:PT):Y k3:=fun x1 H=>
  ldI .i64 H x1 0 (fun v1=>ld1 H x1 1 (fun v2=>AC Tryz.prog T0 21 [(Value.agg ⟨[(Value.int .i64 v1),v2]⟩),(Value.bool true)] H (fun v3 H4=>asI .i64 v3 (fun v5=>B6 P x1 v5 H4))))
theorem q7 P:Q o7 (E k5 (B6 P)) k3 (B7 P):=fun _ _ _=>by kernel_rfl
abbrev k6:Sk:=[(0,.g [.i,.v])]
def o8:=O 2
def B8 (P:PT):Y k6:=fun x0a x0b H=>
  newK H [(Value.int .i64 x0a),x0b] 26 (fun b1 H2=>B7 P b1 H2)
theorem q8 P:Q o8 (E k3 (B7 P)) k6 (B8 P):=fun _ _ _ _=>by kernel_rfl
def code:Code:=(.seq (R 0 o8) (.seq (.seq (R 1 o7) (.seq (R 2 o6) (.cond (.tmp 11) (.seq (R 3 o5) .ret) .skip))) (.seq (R 4 o4) (.seq (.seq (R 5 o3) (.cond (.tmp 20) (.seq (R 6 o2) .ret) .skip)) (.seq (R 7 o1) .ret)))))
theorem body:Tryz.f6.body=some code:=by kernel_rfl
theorem main (P:PT):∀ env H,(En 22 k6 (B8 P)) env H→AW Tryz.prog T0 code env H (M (ret P)):=
  (r_seq (b (q8 P)) (r_seq (r_seq (b (q7 P)) (r_seq (b (q6 P)) (r_cond rfl (r_seq (b (q5 P)) r_ret) r_skip))) (r_seq (b (q4 P)) (r_seq (r_seq (b (q3 P)) (r_cond rfl (r_seq (b (q2 P)) r_ret) r_skip)) (r_seq (b (q1 P)) r_ret)))))
theorem ac (P:PT) (x0a:Int) (x0b:Value) (H:AHeap) (h:B8 P x0a x0b H):AC Tryz.prog T0 6 [(Value.agg ⟨[(Value.int .i64 x0a),x0b]⟩)] H P:=
  r_fn T0_ok (c:=code) (n:=22) Tryz.func6 body (by kernel_rfl) (main P) (En_mk (x0a,x0b,()) (by kernel_rfl) ⟨by kernel_rfl,trivial⟩ h)

end F6
namespace F7
abbrev E:=En 19
abbrev Q:=QB Tryz.prog T0 19
def O (k:Nat):=ob Tryz.f7 (pth k)
def ret (P:PT):EP:=retE T0 19 Tryz.f7 P
abbrev k0:Sk:=[(5,J)]
def o1:=O 62
def B1 (P:PT):Y k0:=fun x5 H=>
  P (Value.tuple ⟨[(Value.int .i64 x5),(Value.int .i64 0)]⟩) H
theorem q1 P:Q o1 (ret P) k0 (B1 P):=fun _ _ _=>by kernel_rfl
abbrev k1:Sk:=[]
def o2:=O 244
def B2 (P:PT):Y k1:=fun H=>
  P (Value.tuple ⟨[(Value.int .i64 0),(Value.int .i64 4)]⟩) H
theorem q2 P:Q o2 (ret P) k1 (B2 P):=fun _ _=>by kernel_rfl
abbrev k2:Sk:=[(5,J),(6,.b)]
def o3:=O 60
def B3 (P:PT):Y k2:=fun x5 x6 H=>
  pif (!x6) (B2 P H) (B1 P x5 H)
theorem q3 P:Q o3 (cnd 17 (E k1 (B2 P)) (E k0 (B1 P))) k2 (B3 P):=fun _ _ _ _=>by kernel_rfl
abbrev k3:Sk:=[(1,.x)]
def o4:=O 14
def B4 (P:PT):Y k3:=fun x1 H=>
  ldI .i64 H x1 0 (fun v1=>ld1 H x1 1 (fun v2=>AC Tryz.prog T0 24 [(Value.agg ⟨[(Value.int .i64 v1),v2]⟩)] H (fun v3 H4=>tup3 v3 (fun v5 v6 v7=>asI .i64 v6 (fun v9=>asB v7 (fun v10=>B3 P v9 v10 H4))))))
theorem q4 P:Q o4 (E k2 (B3 P)) k3 (B4 P):=fun _ _ _=>by kernel_rfl
def o5:=O 52
def B5 (P:PT):Y k1:=fun H=>
  P (Value.tuple ⟨[(Value.int .i64 0),(Value.int .i64 1)]⟩) H
theorem q5 P:Q o5 (ret P) k1 (B5 P):=fun _ _=>by kernel_rfl
def o6:=O 12
def B6 (P:PT):Y k3:=fun x1 H=>
  ldI .i64 H x1 0 (fun v1=>ld1 H x1 1 (fun v2=>AC Tryz.prog T0 23 [(Value.agg ⟨[(Value.int .i64 v1),v2]⟩)] H (fun v3 H4=>asB v3 (fun v5=>pif (!v5) (B5 P H4) (B4 P x1 H4)))))
theorem q6 P:Q o6 (cnd 9 (E k1 (B5 P)) (E k3 (B4 P))) k3 (B6 P):=fun _ _ _=>by kernel_rfl
abbrev k4:Sk:=[(0,.g [.i,.v])]
def o7:=O 2
def B7 (P:PT):Y k4:=fun x0a x0b H=>
  newK H [(Value.int .i64 x0a),x0b] 26 (fun b1 H2=>B6 P b1 H2)
theorem q7 P:Q o7 (E k3 (B6 P)) k4 (B7 P):=fun _ _ _ _=>by kernel_rfl
def code:Code:=(.seq (R 0 o7) (.seq (.seq (R 1 o6) (.cond (.tmp 9) (.seq (R 2 o5) .ret) .skip)) (.seq (R 3 o4) (.seq (.seq (R 4 o3) (.cond (.tmp 17) (.seq (R 5 o2) .ret) .skip)) (.seq (R 6 o1) .ret)))))
theorem body:Tryz.f7.body=some code:=by kernel_rfl
theorem main (P:PT):∀ env H,(En 19 k4 (B7 P)) env H→AW Tryz.prog T0 code env H (M (ret P)):=
  (r_seq (b (q7 P)) (r_seq (r_seq (b (q6 P)) (r_cond rfl (r_seq (b (q5 P)) r_ret) r_skip)) (r_seq (b (q4 P)) (r_seq (r_seq (b (q3 P)) (r_cond rfl (r_seq (b (q2 P)) r_ret) r_skip)) (r_seq (b (q1 P)) r_ret)))))
theorem ac (P:PT) (x0a:Int) (x0b:Value) (H:AHeap) (h:B7 P x0a x0b H):AC Tryz.prog T0 7 [(Value.agg ⟨[(Value.int .i64 x0a),x0b]⟩)] H P:=
  r_fn T0_ok (c:=code) (n:=19) Tryz.func7 body (by kernel_rfl) (main P) (En_mk (x0a,x0b,()) (by kernel_rfl) ⟨by kernel_rfl,trivial⟩ h)

end F7
namespace F8
abbrev E:=En 23
abbrev Q:=QB Tryz.prog T0 23
def O (k:Nat):=ob Tryz.f8 (pth k)
def ret (P:PT):EP:=retE T0 23 Tryz.f8 P
abbrev k0:Sk:=[(5,.i .u64)]
def o1:=O 62
def B1 (P:PT):Y k0:=fun x5 H=>
  AC Tryz.prog T0 25 [(Value.int .u64 x5)] H (fun v1 H2=>P (Value.tuple ⟨[v1,(Value.int .i64 0)]⟩) H2)
theorem q1 P:Q o1 (ret P) k0 (B1 P):=fun _ _ _=>by kernel_rfl
abbrev k1:Sk:=[]
def o2:=O 244
def B2 (P:PT):Y k1:=fun H=>
  P (Value.tuple ⟨[(Value.slice none 0 0),(Value.int .i64 4)]⟩) H
theorem q2 P:Q o2 (ret P) k1 (B2 P):=fun _ _=>by kernel_rfl
abbrev k2:Sk:=[(5,.i .u64),(7,.b)]
def o3:=O 60
def B3 (P:PT):Y k2:=fun x5 x7 H=>
  pif (!x7) (B2 P H) (B1 P x5 H)
theorem q3 P:Q o3 (cnd 20 (E k1 (B2 P)) (E k0 (B1 P))) k2 (B3 P):=fun _ _ _ _=>by kernel_rfl
abbrev k3:Sk:=[(1,.x)]
def o4:=O 14
def B4 (P:PT):Y k3:=fun x1 H=>
  ldI .i64 H x1 0 (fun v1=>ld1 H x1 1 (fun v2=>AC Tryz.prog T0 22 [(Value.agg ⟨[(Value.int .i64 v1),v2]⟩)] H (fun v3 H4=>tup3 v3 (fun v5 v6 v7=>asI .u64 v5 (fun v8=>asI .i64 v6 (fun v9=>asB v7 (fun v10=>B3 P v8 v10 H4)))))))
theorem q4 P:Q o4 (E k2 (B3 P)) k3 (B4 P):=fun _ _ _=>by kernel_rfl
abbrev k4:Sk:=[(4,J)]
def o5:=O 108
def B5 (P:PT):Y k4:=fun x4 H=>
  P (Value.tuple ⟨[(Value.slice none 0 0),(Value.int .i64 x4)]⟩) H
theorem q5 P:Q o5 (ret P) k4 (B5 P):=fun _ _ _=>by kernel_rfl
abbrev k5:Sk:=[(1,.x),(4,J)]
def o6:=O 26
def B6 (P:PT):Y k5:=fun x1 x4 H=>
  pif ((x4:Int) != 0) (B5 P x4 H) (B4 P x1 H)
theorem q6 P:Q o6 (cnd 11 (E k4 (B5 P)) (E k3 (B4 P))) k5 (B6 P):=fun _ _ _ _=>by kernel_rfl
def o7:=O 12
def B7 (P:PT):Y k3:=fun x1 H=>
  ldI .i64 H x1 0 (fun v1=>ld1 H x1 1 (fun v2=>AC Tryz.prog T0 21 [(Value.agg ⟨[(Value.int .i64 v1),v2]⟩),(Value.bool true)] H (fun v3 H4=>asI .i64 v3 (fun v5=>B6 P x1 v5 H4))))
theorem q7 P:Q o7 (E k5 (B6 P)) k3 (B7 P):=fun _ _ _=>by kernel_rfl
abbrev k6:Sk:=[(0,.g [.i,.v])]
def o8:=O 2
def B8 (P:PT):Y k6:=fun x0a x0b H=>
  newK H [(Value.int .i64 x0a),x0b] 26 (fun b1 H2=>B7 P b1 H2)
theorem q8 P:Q o8 (E k3 (B7 P)) k6 (B8 P):=fun _ _ _ _=>by kernel_rfl
def code:Code:=(.seq (R 0 o8) (.seq (.seq (R 1 o7) (.seq (R 2 o6) (.cond (.tmp 11) (.seq (R 3 o5) .ret) .skip))) (.seq (R 4 o4) (.seq (.seq (R 5 o3) (.cond (.tmp 20) (.seq (R 6 o2) .ret) .skip)) (.seq (R 7 o1) .ret)))))
theorem body:Tryz.f8.body=some code:=by kernel_rfl
theorem main (P:PT):∀ env H,(En 23 k6 (B8 P)) env H→AW Tryz.prog T0 code env H (M (ret P)):=
  (r_seq (b (q8 P)) (r_seq (r_seq (b (q7 P)) (r_seq (b (q6 P)) (r_cond rfl (r_seq (b (q5 P)) r_ret) r_skip))) (r_seq (b (q4 P)) (r_seq (r_seq (b (q3 P)) (r_cond rfl (r_seq (b (q2 P)) r_ret) r_skip)) (r_seq (b (q1 P)) r_ret)))))
theorem ac (P:PT) (x0a:Int) (x0b:Value) (H:AHeap) (h:B8 P x0a x0b H):AC Tryz.prog T0 8 [(Value.agg ⟨[(Value.int .i64 x0a),x0b]⟩)] H P:=
  r_fn T0_ok (c:=code) (n:=23) Tryz.func8 body (by kernel_rfl) (main P) (En_mk (x0a,x0b,()) (by kernel_rfl) ⟨by kernel_rfl,trivial⟩ h)

end F8
namespace F9
abbrev E:=En 19
abbrev Q:=QB Tryz.prog T0 19
def O (k:Nat):=ob Tryz.f9 (pth k)
def ret (P:PT):EP:=retE T0 19 Tryz.f9 P
abbrev k0:Sk:=[(4,.v)]
def o1:=O 62
def B1 (P:PT):Y k0:=fun x4 H=>
  P (Value.tuple ⟨[x4,(Value.int .i64 0)]⟩) H
theorem q1 P:Q o1 (ret P) k0 (B1 P):=fun _ _ _=>by kernel_rfl
abbrev k1:Sk:=[]
def o2:=O 244
def B2 (P:PT):Y k1:=fun H=>
  P (Value.tuple ⟨[(Value.slice none 0 0),(Value.int .i64 4)]⟩) H
theorem q2 P:Q o2 (ret P) k1 (B2 P):=fun _ _=>by kernel_rfl
abbrev k2:Sk:=[(4,.v),(6,.b)]
def o3:=O 60
def B3 (P:PT):Y k2:=fun x4 x6 H=>
  pif (!x6) (B2 P H) (B1 P x4 H)
theorem q3 P:Q o3 (cnd 17 (E k1 (B2 P)) (E k0 (B1 P))) k2 (B3 P):=fun _ _ _ _=>by kernel_rfl
abbrev k3:Sk:=[(1,.x)]
def o4:=O 14
def B4 (P:PT):Y k3:=fun x1 H=>
  ldI .i64 H x1 0 (fun v1=>ld1 H x1 1 (fun v2=>AC Tryz.prog T0 24 [(Value.agg ⟨[(Value.int .i64 v1),v2]⟩)] H (fun v3 H4=>tup3 v3 (fun v5 v6 v7=>asI .i64 v6 (fun v9=>asB v7 (fun v10=>B3 P v5 v10 H4))))))
theorem q4 P:Q o4 (E k2 (B3 P)) k3 (B4 P):=fun _ _ _=>by kernel_rfl
def o5:=O 52
def B5 (P:PT):Y k1:=fun H=>
  P (Value.tuple ⟨[(Value.slice none 0 0),(Value.int .i64 1)]⟩) H
theorem q5 P:Q o5 (ret P) k1 (B5 P):=fun _ _=>by kernel_rfl
def o6:=O 12
def B6 (P:PT):Y k3:=fun x1 H=>
  ldI .i64 H x1 0 (fun v1=>ld1 H x1 1 (fun v2=>AC Tryz.prog T0 23 [(Value.agg ⟨[(Value.int .i64 v1),v2]⟩)] H (fun v3 H4=>asB v3 (fun v5=>pif (!v5) (B5 P H4) (B4 P x1 H4)))))
theorem q6 P:Q o6 (cnd 9 (E k1 (B5 P)) (E k3 (B4 P))) k3 (B6 P):=fun _ _ _=>by kernel_rfl
abbrev k4:Sk:=[(0,.g [.i,.v])]
def o7:=O 2
def B7 (P:PT):Y k4:=fun x0a x0b H=>
  newK H [(Value.int .i64 x0a),x0b] 26 (fun b1 H2=>B6 P b1 H2)
theorem q7 P:Q o7 (E k3 (B6 P)) k4 (B7 P):=fun _ _ _ _=>by kernel_rfl
def code:Code:=(.seq (R 0 o7) (.seq (.seq (R 1 o6) (.cond (.tmp 9) (.seq (R 2 o5) .ret) .skip)) (.seq (R 3 o4) (.seq (.seq (R 4 o3) (.cond (.tmp 17) (.seq (R 5 o2) .ret) .skip)) (.seq (R 6 o1) .ret)))))
theorem body:Tryz.f9.body=some code:=by kernel_rfl
theorem main (P:PT):∀ env H,(En 19 k4 (B7 P)) env H→AW Tryz.prog T0 code env H (M (ret P)):=
  (r_seq (b (q7 P)) (r_seq (r_seq (b (q6 P)) (r_cond rfl (r_seq (b (q5 P)) r_ret) r_skip)) (r_seq (b (q4 P)) (r_seq (r_seq (b (q3 P)) (r_cond rfl (r_seq (b (q2 P)) r_ret) r_skip)) (r_seq (b (q1 P)) r_ret)))))
theorem ac (P:PT) (x0a:Int) (x0b:Value) (H:AHeap) (h:B7 P x0a x0b H):AC Tryz.prog T0 9 [(Value.agg ⟨[(Value.int .i64 x0a),x0b]⟩)] H P:=
  r_fn T0_ok (c:=code) (n:=19) Tryz.func9 body (by kernel_rfl) (main P) (En_mk (x0a,x0b,()) (by kernel_rfl) ⟨by kernel_rfl,trivial⟩ h)

end F9
namespace F10
abbrev E:=En 26
abbrev Q:=QB Tryz.prog T0 26
def O (k:Nat):=ob Tryz.f10 (pth k)
def ret (P:PT):EP:=retE T0 26 Tryz.f10 P
abbrev k0:Sk:=[]
def o1:=O 30
def B1 (P:PT):Y k0:=fun H=>
  P (Value.bool true) H
theorem q1 P:Q o1 (ret P) k0 (B1 P):=fun _ _=>by kernel_rfl
abbrev k1:Sk:=[(0,.v),(1,.v),(5,J)]
def o3:=O 467
def B3 (P:PT) (N2:Y k1):Y k1:=fun x0 x1 x5 H=>
  N2 x0 x1 (IntKind.i64.wrap (x5+1)) H
theorem q3 P N2:Q o3 (E k1 N2) k1 (B3 P N2):=fun _ _ _ _ _=>by kernel_rfl
def o4:=O 7460
def B4 (P:PT) (N2:Y k1):Y k0:=fun H=>
  P (Value.bool false) H
theorem q4 P N2:Q o4 (ret P) k0 (B4 P N2):=fun _ _=>by kernel_rfl
def o5:=O 1864
def B5 (P:PT) (N2:Y k1):Y k1:=fun x0 x1 x5 H=>
  idxK x0 x5 1 (fun b1 o2=>ldI .i64 H b1 o2 (fun v3=>idxK x1 x5 1 (fun b4 o5=>ldI .i64 H b4 o5 (fun v6=>pif ((v3:Int) != v6) (B4 P N2 H) (B3 P N2 x0 x1 x5 H)))))
theorem q5 (P:PT) (N2:Y k1):QD Tryz.prog T0 26 o5 [(0,false),(1,false),(2,false),(3,false),(4,false),(5,false),(6,false),(7,false),(8,false)] (cnd 25 (En 26 k0 (B4 P N2)) (En 26 k1 (B3 P N2))) k1 (B5 P N2):=fun _ _ _ _ _  => by kernel_rfl
def o6:=O 464
def B6 (P:PT) (N2:Y k1):Y k1:=fun x0 x1 x5 H=>
  lenK x0 (fun n1=>pif (decide ((x5:Int)<(n1:Int))) (B5 P N2 x0 x1 x5 H) (B1 P H))
theorem q6 P N2:Q o6 (cnd 14 (E k1 (B5 P N2)) (E k0 (B1 P))) k1 (B6 P N2):=fun _ _ _ _ _=>by kernel_rfl
def L2 (P:PT):Y k1:=fun x0 x1 x5 H=>
  ∃ (I:Y k1) (μ:NTy k1 (AHeap→Nat)),I x0 x1 x5 H∧∀ y0 y1 y5 G,I y0 y1 y5 G→B6 P (fun z0 z1 z5 G'=>I z0 z1 z5 G'∧μ z0 z1 z5 G'<μ y0 y1 y5 G) y0 y1 y5 G
theorem l2 P:LQ k1 (L2 P) (B6 P):=fun ⟨_,_,_,_⟩ _ ⟨I,μ,h0,hI⟩=>⟨apT _ I,apT _ μ,h0,fun ⟨_,_,_,_⟩ _ h=>hI _ _ _ _  h⟩
abbrev k2:Sk:=[(0,.v),(1,.v)]
def o7:=O 28
def B7 (P:PT):Y k2:=fun x0 x1 H=>
  L2 P x0 x1 0 H
theorem q7 P:Q o7 (E k1 (L2 P)) k2 (B7 P):=fun _ _ _ _=>by kernel_rfl
def o8:=O 52
def B8 (P:PT):Y k0:=fun H=>
  P (Value.bool false) H
theorem q8 P:Q o8 (ret P) k0 (B8 P):=fun _ _=>by kernel_rfl
def o9:=O 12
def B9 (P:PT):Y k2:=fun x0 x1 H=>
  lenK x0 (fun n1=>lenK x1 (fun n2=>pif (((n1:Int):Int) != (n2:Int)) (B8 P H) (B7 P x0 x1 H)))
theorem q9 P:Q o9 (cnd 10 (E k0 (B8 P)) (E k2 (B7 P))) k2 (B9 P):=fun _ _ _ _=>by kernel_rfl
def o10:=O 2
def B10 (P:PT):Y k2:=fun x0 x1 H=>
  B9 P x0 x1 H
theorem q10 P:Q o10 (E k2 (B9 P)) k2 (B10 P):=fun _ _ _ _=>by kernel_rfl
def code:Code:=(.seq (R 0 o10) (.seq (.seq (R 1 o9) (.cond (.tmp 10) (.seq (R 2 o8) .ret) .skip)) (.seq (.seq (R 3 o7) (.block 0 (.loop (.seq (.seq (R 4 o6) (.cond (.tmp 14) .skip (.exit 0))) (.seq (.block 1 (.seq (.region 6 ⟨o5⟩ true) (.cond (.tmp 25) (.seq (R 7 o4) .ret) .skip))) (R 5 o3)))))) (.seq (R 8 o1) .ret))))
theorem body:Tryz.f10.body=some code:=by kernel_rfl
theorem main (P:PT):∀ env H,(En 26 k2 (B10 P)) env H→AW Tryz.prog T0 code env H (M (ret P)):=
  (r_seq (b (q10 P)) (r_seq (r_seq (b (q9 P)) (r_cond rfl (r_seq (b (q8 P)) r_ret) r_skip)) (r_seq (r_seq (b (q7 P)) (r_block (rL (l2 P) (fun N2=>(r_seq (r_seq (b (q6 P N2)) (r_cond rfl r_skip (r_exit (fun _ _ h=>h)))) (r_seq (r_block (r_seq (rD T0_ok mixed [(0,false),(1,false),(2,false),(3,false),(4,false),(5,false),(6,false),(7,false),(8,false)] (by kernel_rfl) (q5 P N2)) (r_cond rfl (r_seq (b (q4 P N2)) r_ret) r_skip))) (b (q3 P N2)))))))) (r_seq (b (q1 P)) r_ret))))
theorem ac (P:PT) (x0 x1:Value) (H:AHeap) (h:B10 P x0 x1 H):AC Tryz.prog T0 10 [x0,x1] H P:=
  r_fn T0_ok (c:=code) (n:=26) Tryz.func10 body (by kernel_rfl) (main P) (En_mk (x0,x1,()) (by kernel_rfl) ⟨by kernel_rfl,by kernel_rfl,trivial⟩ h)

end F10
namespace F11
abbrev E:=En 30
abbrev Q:=QB Tryz.prog T0 30
def O (k:Nat):=ob Tryz.f11 (pth k)
def ret (P:PT):EP:=retE T0 30 Tryz.f11 P
abbrev k0:Sk:=[(2,.x),(4,.x),(5,.v)]
def o1:=O 30
def B1 (P:PT):Y k0:=fun x2 x4 x5 H=>
  ldI .i64 H x4 0 (fun v1=>ld1 H x4 1 (fun v2=>stK H x2 0 [(Value.int .i64 v1),v2] (fun H3=>ldI .i64 H3 x2 0 (fun v4=>ld1 H3 x2 1 (fun v5=>P (Value.tuple ⟨[(Value.agg ⟨[(Value.int .i64 v4),v5]⟩),x5]⟩) H3)))))
theorem q1 P:Q o1 (ret P) k0 (B1 P):=fun _ _ _ _ _=>by kernel_rfl
abbrev k1:Sk:=[(2,.x),(4,.x),(6,.v)]
def o2:=O 236
def B2 (P:PT):Y k1:=fun x2 x4 x6 H=>
  ldI .i64 H x4 0 (fun v1=>ld1 H x4 1 (fun v2=>stK H x2 0 [(Value.int .i64 v1),v2] (fun H3=>ldI .i64 H3 x2 0 (fun v4=>ld1 H3 x2 1 (fun v5=>P (Value.tuple ⟨[(Value.agg ⟨[(Value.int .i64 v4),v5]⟩),x6]⟩) H3)))))
theorem q2 P:Q o2 (ret P) k1 (B2 P):=fun _ _ _ _ _=>by kernel_rfl
abbrev k2:Sk:=[(0,.v),(2,.x),(4,.x),(5,.v),(6,.v),(7,J)]
def o3:=O 58
def B3 (P:PT):Y k2:=fun x0 x2 x4 x5 x6 x7 H=>
  pif ((x7:Int)==0) (AC Tryz.prog T0 20 [x0] H (fun v1 H2=>AC Tryz.prog T0 27 [v1,(Value.int .i64 2)] H2 (fun v4 H5=>asI .i64 v4 (fun v6=>pif ((v6:Int)==0) (B2 P x2 x4 x6 H5) (B1 P x2 x4 x5 H5))))) (B1 P x2 x4 x5 H)
theorem q3 P:Q o3 (cnd 25 (E k1 (B2 P)) (E k0 (B1 P))) k2 (B3 P):=fun _ _ _ _ _ _ _ _=>by kernel_rfl
abbrev k3:Sk:=[(0,.v),(2,.x),(4,.x),(5,.v)]
def o4:=O 28
def B4 (P:PT):Y k3:=fun x0 x2 x4 x5 H=>
  ldI .i64 H x4 0 (fun v1=>ld1 H x4 1 (fun v2=>AC Tryz.prog T0 9 [(Value.agg ⟨[(Value.int .i64 v1),v2]⟩)] H (fun v3 H4=>tup2 v3 (fun v5 v6=>asI .i64 v6 (fun v8=>B3 P x0 x2 x4 x5 v5 v8 H4)))))
theorem q4 P:Q o4 (E k2 (B3 P)) k3 (B4 P):=fun _ _ _ _ _ _=>by kernel_rfl
abbrev k4:Sk:=[(0,.v),(2,.x)]
def o5:=O 6
def B5 (P:PT):Y k4:=fun x0 x2 H=>
  AC Tryz.prog T0 26 [x0] H (fun v1 H2=>tup2 v1 (fun v3 v4=>agg2 v3 (fun v5 v6=>asI .i64 v5 (fun v7=>newK H2 [(Value.int .i64 0),(Value.slice none 0 0)] 26 (fun b10 H11=>stK H11 b10 0 [(Value.int .i64 v7),v6] (fun H12=>B4 P x0 x2 b10 v4 H12))))))
theorem q5 P:Q o5 (E k3 (B4 P)) k4 (B5 P):=fun _ _ _ _=>by kernel_rfl
abbrev k5:Sk:=[(0,.v)]
def o6:=O 2
def B6 (P:PT):Y k5:=fun x0 H=>
  newK H [(Value.int .i64 0),(Value.slice none 0 0)] 26 (fun b1 H2=>B5 P x0 b1 H2)
theorem q6 P:Q o6 (E k4 (B5 P)) k5 (B6 P):=fun _ _ _=>by kernel_rfl
def code:Code:=(.seq (R 0 o6) (.seq (R 1 o5) (.seq (.seq (R 2 o4) (.seq (R 3 o3) (.cond (.tmp 25) (.seq (R 4 o2) .ret) .skip))) (.seq (R 5 o1) .ret))))
theorem body:Tryz.f11.body=some code:=by kernel_rfl
theorem main (P:PT):∀ env H,(En 30 k5 (B6 P)) env H→AW Tryz.prog T0 code env H (M (ret P)):=
  (r_seq (b (q6 P)) (r_seq (b (q5 P)) (r_seq (r_seq (b (q4 P)) (r_seq (b (q3 P)) (r_cond rfl (r_seq (b (q2 P)) r_ret) r_skip))) (r_seq (b (q1 P)) r_ret))))
theorem ac (P:PT) (x0:Value) (H:AHeap) (h:B6 P x0 H):AC Tryz.prog T0 11 [x0] H P:=
  r_fn T0_ok (c:=code) (n:=30) Tryz.func11 body (by kernel_rfl) (main P) (En_mk (x0,()) (by kernel_rfl) ⟨by kernel_rfl,trivial⟩ h)

end F11
namespace F12
abbrev E:=En 58
abbrev Q:=QB Tryz.prog T0 58
def O (k:Nat):=ob Tryz.f12 (pth k)
def ret (P:PT):EP:=retE T0 58 Tryz.f12 P
abbrev k0:Sk:=[(8,.v)]
def o1:=O 254
def B1 (P:PT):Y k0:=fun x8 H=>
  P (Value.tuple ⟨[x8,(Value.int .i64 0)]⟩) H
theorem q1 P:Q o1 (ret P) k0 (B1 P):=fun _ _ _=>by kernel_rfl
abbrev k1:Sk:=[(2,.x),(8,.v),(33,.v),(34,J),(35,J)]
def o3:=O 8103
def B3 (P:PT) (N2:Y k1):Y k1:=fun x2 x8 x33 x34 x35 H=>
  N2 x2 x8 x33 x34 (IntKind.i64.wrap (x35+1)) H
theorem q3 P N2:Q o3 (E k1 N2) k1 (B3 P N2):=fun _ _ _ _ _ _ _=>by kernel_rfl
abbrev k2:Sk:=[(2,.x),(8,.v),(33,.v),(34,J),(35,J),(41,.v),(42,J),(43,J)]
def o5:=O 2074215
def B5 (P:PT) (N2:Y k1) (N4:Y k2):Y k2:=fun x2 x8 x33 x34 x35 x41 x42 x43 H=>
  N4 x2 x8 x33 x34 x35 x41 x42 (IntKind.i64.wrap (x43+1)) H
theorem q5 P N2 N4:Q o5 (E k2 N4) k2 (B5 P N2 N4):=fun _ _ _ _ _ _ _ _ _ _=>by kernel_rfl
abbrev k3:Sk:=[(2,.x),(8,.v),(11,J),(12,.x),(33,.v),(34,J),(35,J),(41,.v),(42,J),(43,J)]
def o6:=O 8296857
def B6 (P:PT) (N2:Y k1) (N4:Y k2):Y k3:=fun x2 x8 x11 x12 x33 x34 x35 x41 x42 x43 H=>
  ldI .i64 H x12 0 (fun v1=>idxK x8 v1 1 (fun b2 o3=>stK H b2 o3 [(Value.int .i64 (IntKind.i64.wrap (1+(Int.tmod x11 2))))] (fun H4=>B5 P N2 N4 x2 x8 x33 x34 x35 x41 x42 x43 H4)))
theorem q6 P N2 N4:Q o6 (E k2 (B5 P N2 N4)) k3 (B6 P N2 N4):=fun _ _ _ _ _ _ _ _ _ _ _ _=>by kernel_rfl
def o7:=O 8296856
def B7 (P:PT) (N2:Y k1) (N4:Y k2):Y k2:=fun x2 x8 x33 x34 x35 x41 x42 x43 H=>
  idxK x41 x43 2 (fun b1 o2=>ldI .i64 H b1 o2 (fun v3=>ld1 H b1 (o2+1) (fun v5=>asB v5 (fun v4=>newK H [(Value.int .i64 0),(Value.bool false)] 61 (fun b6 H7=>stK H7 b6 0 [(Value.int .i64 v3),(Value.bool v4)] (fun H8=>B6 P N2 N4 x2 x8 x43 b6 x33 x34 x35 x41 x42 x43 H8))))))
theorem q7 P N2 N4:Q o7 (E k3 (B6 P N2 N4)) k2 (B7 P N2 N4):=fun _ _ _ _ _ _ _ _ _ _=>by kernel_rfl
def o8:=O 518552
def B8 (P:PT) (N2:Y k1) (N4:Y k2):Y k2:=fun x2 x8 x33 x34 x35 x41 x42 x43 H=>
  pif (decide ((x43:Int)<x42)) (B7 P N2 N4 x2 x8 x33 x34 x35 x41 x42 x43 H) (B3 P N2 x2 x8 x33 x34 x35 H)
theorem q8 P N2 N4:Q o8 (cnd 44 (E k2 (B7 P N2 N4)) (E k1 (B3 P N2))) k2 (B8 P N2 N4):=fun _ _ _ _ _ _ _ _ _ _=>by kernel_rfl
def L4 (P:PT) (N2:Y k1):Y k2:=fun x2 x8 x33 x34 x35 x41 x42 x43 H=>
  ∃ (I:Y k2) (μ:NTy k2 (AHeap→Nat)),I x2 x8 x33 x34 x35 x41 x42 x43 H∧∀ y2 y8 y33 y34 y35 y41 y42 y43 G,I y2 y8 y33 y34 y35 y41 y42 y43 G→B8 P N2 (fun z2 z8 z33 z34 z35 z41 z42 z43 G'=>I z2 z8 z33 z34 z35 z41 z42 z43 G'∧μ z2 z8 z33 z34 z35 z41 z42 z43 G'<μ y2 y8 y33 y34 y35 y41 y42 y43 G) y2 y8 y33 y34 y35 y41 y42 y43 G
theorem l4 P N2:LQ k2 (L4 P N2) (B8 P N2):=fun ⟨_,_,_,_,_,_,_,_,_⟩ _ ⟨I,μ,h0,hI⟩=>⟨apT _ I,apT _ μ,h0,fun ⟨_,_,_,_,_,_,_,_,_⟩ _ h=>hI _ _ _ _ _ _ _ _ _  h⟩
abbrev k4:Sk:=[(2,.x),(8,.v),(10,.i .u64),(33,.v),(34,J),(35,J)]
def o9:=O 64818
def B9 (P:PT) (N2:Y k1):Y k4:=fun x2 x8 x10 x33 x34 x35 H=>
  ldI .i64 H x2 0 (fun v1=>ld1 H x2 1 (fun v2=>AC Tryz.prog T0 32 [(Value.agg ⟨[(Value.int .i64 v1),v2]⟩),(Value.int .u64 x10)] H (fun v3 H4=>lenK v3 (fun n6=>L4 P N2 x2 x8 x33 x34 x35 v3 (n6:Int) 0 H4))))
theorem q9 P N2:Q o9 (E k2 (L4 P N2)) k4 (B9 P N2):=fun _ _ _ _ _ _ _ _=>by kernel_rfl
def o10:=O 32408
def B10 (P:PT) (N2:Y k1):Y k1:=fun x2 x8 x33 x34 x35 H=>
  idxK x33 x35 1 (fun b1 o2=>ldI .u64 H b1 o2 (fun v3=>B9 P N2 x2 x8 v3 x33 x34 x35 H))
theorem q10 P N2:Q o10 (E k4 (B9 P N2)) k1 (B10 P N2):=fun _ _ _ _ _ _ _=>by kernel_rfl
def o11:=O 2024
def B11 (P:PT) (N2:Y k1):Y k1:=fun x2 x8 x33 x34 x35 H=>
  pif (decide ((x35:Int)<x34)) (B10 P N2 x2 x8 x33 x34 x35 H) (B1 P x8 H)
theorem q11 P N2:Q o11 (cnd 36 (E k1 (B10 P N2)) (E k0 (B1 P))) k1 (B11 P N2):=fun _ _ _ _ _ _ _=>by kernel_rfl
def L2 (P:PT):Y k1:=fun x2 x8 x33 x34 x35 H=>
  ∃ (I:Y k1) (μ:NTy k1 (AHeap→Nat)),I x2 x8 x33 x34 x35 H∧∀ y2 y8 y33 y34 y35 G,I y2 y8 y33 y34 y35 G→B11 P (fun z2 z8 z33 z34 z35 G'=>I z2 z8 z33 z34 z35 G'∧μ z2 z8 z33 z34 z35 G'<μ y2 y8 y33 y34 y35 G) y2 y8 y33 y34 y35 G
theorem l2 P:LQ k1 (L2 P) (B11 P):=fun ⟨_,_,_,_,_,_⟩ _ ⟨I,μ,h0,hI⟩=>⟨apT _ I,apT _ μ,h0,fun ⟨_,_,_,_,_,_⟩ _ h=>hI _ _ _ _ _ _  h⟩
abbrev k5:Sk:=[(2,.x),(7,.i .u64),(8,.v)]
def o12:=O 252
def B12 (P:PT):Y k5:=fun x2 x7 x8 H=>
  ldI .i64 H x2 0 (fun v1=>ld1 H x2 1 (fun v2=>AC Tryz.prog T0 31 [(Value.agg ⟨[(Value.int .i64 v1),v2]⟩),(Value.int .u64 x7)] H (fun v3 H4=>lenK v3 (fun n6=>L2 P x2 x8 v3 (n6:Int) 0 H4))))
theorem q12 P:Q o12 (E k1 (L2 P)) k5 (B12 P):=fun _ _ _ _ _=>by kernel_rfl
abbrev k6:Sk:=[(2,.x),(7,.i .u64)]
def o13:=O 62
def B13 (P:PT):Y k6:=fun x2 x7 H=>
  ld1 H x2 1 (fun v1=>lenK v1 (fun n2=>mkR H 8 2 [(Value.int .i64 0)] (n2:Int) (n2:Int) (fun v4 H3=>B12 P x2 x7 v4 H3)))
theorem q13 P:Q o13 (E k5 (B12 P)) k6 (B13 P):=fun _ _ _ _=>by kernel_rfl
abbrev k7:Sk:=[]
def o14:=O 244
def B14 (P:PT):Y k7:=fun H=>
  P (Value.tuple ⟨[(Value.slice none 0 0),(Value.int .i64 4)]⟩) H
theorem q14 P:Q o14 (ret P) k7 (B14 P):=fun _ _=>by kernel_rfl
def o15:=O 60
def B15 (P:PT):Y k6:=fun x2 x7 H=>
  ldI .i64 H x2 0 (fun v1=>ld1 H x2 1 (fun v2=>AC Tryz.prog T0 30 [(Value.agg ⟨[(Value.int .i64 v1),v2]⟩),(Value.int .u64 x7)] H (fun v3 H4=>asI .i64 v3 (fun v5=>pif (decide ((v5:Int)>0)) (B14 P H4) (B13 P x2 x7 H4)))))
theorem q15 P:Q o15 (cnd 26 (E k7 (B14 P)) (E k6 (B13 P))) k6 (B15 P):=fun _ _ _ _=>by kernel_rfl
abbrev k8:Sk:=[(1,.v),(2,.x)]
def o16:=O 14
def B16 (P:PT):Y k8:=fun x1 x2 H=>
  AC Tryz.prog T0 29 [x1] H (fun v1 H2=>asI .u64 v1 (fun v3=>B15 P x2 v3 H2))
theorem q16 P:Q o16 (E k6 (B15 P)) k8 (B16 P):=fun _ _ _ _=>by kernel_rfl
abbrev k9:Sk:=[(6,J)]
def o17:=O 108
def B17 (P:PT):Y k9:=fun x6 H=>
  P (Value.tuple ⟨[(Value.slice none 0 0),(Value.int .i64 x6)]⟩) H
theorem q17 P:Q o17 (ret P) k9 (B17 P):=fun _ _ _=>by kernel_rfl
abbrev k10:Sk:=[(1,.v),(2,.x),(6,J)]
def o18:=O 26
def B18 (P:PT):Y k10:=fun x1 x2 x6 H=>
  pif ((x6:Int) != 0) (B17 P x6 H) (B16 P x1 x2 H)
theorem q18 P:Q o18 (cnd 19 (E k9 (B17 P)) (E k8 (B16 P))) k10 (B18 P):=fun _ _ _ _ _=>by kernel_rfl
def o19:=O 12
def B19 (P:PT):Y k8:=fun x1 x2 H=>
  ldI .i64 H x2 0 (fun v1=>ld1 H x2 1 (fun v2=>ldI .i64 H x2 0 (fun v3=>ld1 H x2 1 (fun v4=>AC Tryz.prog T0 28 [(Value.agg ⟨[(Value.int .i64 v3),v4]⟩),x1] H (fun v5 H6=>asB v5 (fun v7=>(AHeap.le H H6)∧(AC Tryz.prog T0 21 [(Value.agg ⟨[(Value.int .i64 v1),v2]⟩),(Value.bool v7)] H6 (fun v8 H9=>asI .i64 v8 (fun v10=>B18 P x1 x2 v10 H9)))))))))
theorem q19 (P:PT):QD Tryz.prog T0 58 o19 [(0,false),(1,false),(2,false),(3,true),(4,false),(5,false)] (En 58 k10 (B18 P)) k8 (B19 P):=fun _ _ _ _  => by kernel_rfl
abbrev k11:Sk:=[(0,.g [.i,.v]),(1,.v)]
def o20:=O 2
def B20 (P:PT):Y k11:=fun x0a x0b x1 H=>
  newK H [(Value.int .i64 x0a),x0b] 26 (fun b1 H2=>B19 P x1 b1 H2)
theorem q20 P:Q o20 (E k8 (B19 P)) k11 (B20 P):=fun _ _ _ _ _=>by kernel_rfl
def code:Code:=(.seq (R 0 o20) (.seq (.seq (.region 1 ⟨o19⟩ true) (.seq (R 2 o18) (.cond (.tmp 19) (.seq (R 3 o17) .ret) .skip))) (.seq (R 4 o16) (.seq (.seq (R 5 o15) (.cond (.tmp 26) (.seq (R 6 o14) .ret) .skip)) (.seq (R 7 o13) (.seq (.seq (R 8 o12) (.block 0 (.loop (.seq (R 9 o11) (.seq (.cond (.tmp 36) .skip (.exit 0)) (.seq (.block 1 (.seq (R 10 o10) (.seq (R 11 o9) (.block 2 (.loop (.seq (R 12 o8) (.seq (.cond (.tmp 44) .skip (.exit 2)) (.seq (.block 3 (.seq (R 13 o7) (R 14 o6))) (R 15 o5))))))))) (R 16 o3))))))) (.seq (R 17 o1) .ret)))))))
theorem body:Tryz.f12.body=some code:=by kernel_rfl
theorem main (P:PT):∀ env H,(En 58 k11 (B20 P)) env H→AW Tryz.prog T0 code env H (M (ret P)):=
  (r_seq (b (q20 P)) (r_seq (r_seq (rD T0_ok mixed [(0,false),(1,false),(2,false),(3,true),(4,false),(5,false)] (by kernel_rfl) (q19 P)) (r_seq (b (q18 P)) (r_cond rfl (r_seq (b (q17 P)) r_ret) r_skip))) (r_seq (b (q16 P)) (r_seq (r_seq (b (q15 P)) (r_cond rfl (r_seq (b (q14 P)) r_ret) r_skip)) (r_seq (b (q13 P)) (r_seq (r_seq (b (q12 P)) (r_block (rL (l2 P) (fun N2=>(r_seq (b (q11 P N2)) (r_seq (r_cond rfl r_skip (r_exit (fun _ _ h=>h))) (r_seq (r_block (r_seq (b (q10 P N2)) (r_seq (b (q9 P N2)) (r_block (rL (l4 P N2) (fun N4=>(r_seq (b (q8 P N2 N4)) (r_seq (r_cond rfl r_skip (r_exit (fun _ _ h=>h))) (r_seq (r_block (r_seq (b (q7 P N2 N4)) (b (q6 P N2 N4)))) (b (q5 P N2 N4))))))))))) (b (q3 P N2))))))))) (r_seq (b (q1 P)) r_ret)))))))
theorem ac (P:PT) (x0a:Int) (x0b x1:Value) (H:AHeap) (h:B20 P x0a x0b x1 H):AC Tryz.prog T0 12 [(Value.agg ⟨[(Value.int .i64 x0a),x0b]⟩),x1] H P:=
  r_fn T0_ok (c:=code) (n:=58) Tryz.func12 body (by kernel_rfl) (main P) (En_mk (x0a,x0b,x1,()) (by kernel_rfl) ⟨by kernel_rfl,by kernel_rfl,trivial⟩ h)

end F12
namespace F13
abbrev E:=En 55
abbrev Q:=QB Tryz.prog T0 55
def O (k:Nat):=ob Tryz.f13 (pth k)
def ret (P:PT):EP:=retE T0 55 Tryz.f13 P
abbrev k0:Sk:=[(8,.v)]
def o1:=O 126
def B1 (P:PT):Y k0:=fun x8 H=>
  P (Value.tuple ⟨[x8,(Value.int .i64 0)]⟩) H
theorem q1 P:Q o1 (ret P) k0 (B1 P):=fun _ _ _=>by kernel_rfl
abbrev k1:Sk:=[(7,.v),(8,.v),(9,J)]
def o3:=O 2003
def B3 (P:PT) (N2:Y k1):Y k1:=fun x7 x8 x9 H=>
  N2 x7 x8 (IntKind.i64.wrap (x9+1)) H
theorem q3 P N2:Q o3 (E k1 N2) k1 (B3 P N2):=fun _ _ _ _ _=>by kernel_rfl
abbrev k2:Sk:=[(7,.v),(8,.v),(9,J),(10,J)]
def o5:=O 128147
def B5 (P:PT) (N2:Y k1) (N4:Y k2):Y k2:=fun x7 x8 x9 x10 H=>
  N4 x7 x8 x9 (IntKind.i64.wrap (x10+1)) H
theorem q5 P N2 N4:Q o5 (E k2 N4) k2 (B5 P N2 N4):=fun _ _ _ _ _ _=>by kernel_rfl
def o6:=O 256292
def B6 (P:PT) (N2:Y k1) (N4:Y k2):Y k2:=fun x7 x8 x9 x10 H=>
  idxK x7 x9 1 (fun b1 o2=>ld1 H b1 o2 (fun v3=>idxK v3 x10 1 (fun b4 o5=>ldI .i64 H b4 o5 (fun v6=>idxK x8 v6 1 (fun b7 o8=>stK H b7 o8 [(Value.int .i64 (IntKind.i64.wrap (1+(Int.tmod x10 2))))] (fun H9=>B5 P N2 N4 x7 x8 x9 x10 H9))))))
theorem q6 P N2 N4:Q o6 (E k2 (B5 P N2 N4)) k2 (B6 P N2 N4):=fun _ _ _ _ _ _=>by kernel_rfl
def o7:=O 128144
def B7 (P:PT) (N2:Y k1) (N4:Y k2):Y k2:=fun x7 x8 x9 x10 H=>
  idxK x7 x9 1 (fun b1 o2=>ld1 H b1 o2 (fun v3=>lenK v3 (fun n4=>pif (decide ((x10:Int)<(n4:Int))) (B6 P N2 N4 x7 x8 x9 x10 H) (B3 P N2 x7 x8 x9 H))))
theorem q7 P N2 N4:Q o7 (cnd 39 (E k2 (B6 P N2 N4)) (E k1 (B3 P N2))) k2 (B7 P N2 N4):=fun _ _ _ _ _ _=>by kernel_rfl
def L4 (P:PT) (N2:Y k1):Y k2:=fun x7 x8 x9 x10 H=>
  ∃ (I:Y k2) (μ:NTy k2 (AHeap→Nat)),I x7 x8 x9 x10 H∧∀ y7 y8 y9 y10 G,I y7 y8 y9 y10 G→B7 P N2 (fun z7 z8 z9 z10 G'=>I z7 z8 z9 z10 G'∧μ z7 z8 z9 z10 G'<μ y7 y8 y9 y10 G) y7 y8 y9 y10 G
theorem l4 P N2:LQ k2 (L4 P N2) (B7 P N2):=fun ⟨_,_,_,_,_⟩ _ ⟨I,μ,h0,hI⟩=>⟨apT _ I,apT _ μ,h0,fun ⟨_,_,_,_,_⟩ _ h=>hI _ _ _ _ _  h⟩
def o8:=O 8008
def B8 (P:PT) (N2:Y k1):Y k1:=fun x7 x8 x9 H=>
  L4 P N2 x7 x8 x9 0 H
theorem q8 P N2:Q o8 (E k2 (L4 P N2)) k1 (B8 P N2):=fun _ _ _ _ _=>by kernel_rfl
def o9:=O 2000
def B9 (P:PT) (N2:Y k1):Y k1:=fun x7 x8 x9 H=>
  lenK x7 (fun n1=>pif (decide ((x9:Int)<(n1:Int))) (B8 P N2 x7 x8 x9 H) (B1 P x8 H))
theorem q9 P N2:Q o9 (cnd 30 (E k1 (B8 P N2)) (E k0 (B1 P))) k1 (B9 P N2):=fun _ _ _ _ _=>by kernel_rfl
def L2 (P:PT):Y k1:=fun x7 x8 x9 H=>
  ∃ (I:Y k1) (μ:NTy k1 (AHeap→Nat)),I x7 x8 x9 H∧∀ y7 y8 y9 G,I y7 y8 y9 G→B9 P (fun z7 z8 z9 G'=>I z7 z8 z9 G'∧μ z7 z8 z9 G'<μ y7 y8 y9 G) y7 y8 y9 G
theorem l2 P:LQ k1 (L2 P) (B9 P):=fun ⟨_,_,_,_⟩ _ ⟨I,μ,h0,hI⟩=>⟨apT _ I,apT _ μ,h0,fun ⟨_,_,_,_⟩ _ h=>hI _ _ _ _  h⟩
abbrev k3:Sk:=[(7,.v),(8,.v)]
def o10:=O 124
def B10 (P:PT):Y k3:=fun x7 x8 H=>
  L2 P x7 x8 0 H
theorem q10 P:Q o10 (E k1 (L2 P)) k3 (B10 P):=fun _ _ _ _=>by kernel_rfl
abbrev k4:Sk:=[]
def o11:=O 244
def B11 (P:PT):Y k4:=fun H=>
  P (Value.tuple ⟨[(Value.slice none 0 0),(Value.int .i64 4)]⟩) H
theorem q11 P:Q o11 (ret P) k4 (B11 P):=fun _ _=>by kernel_rfl
def o12:=O 60
def B12 (P:PT):Y k3:=fun x7 x8 H=>
  AC Tryz.prog T0 35 [x7] H (fun v1 H2=>asI .i64 v1 (fun v3=>pif (decide ((v3:Int)>0)) (B11 P H2) (B10 P x7 x8 H2)))
theorem q12 P:Q o12 (cnd 26 (E k4 (B11 P)) (E k3 (B10 P))) k3 (B12 P):=fun _ _ _ _=>by kernel_rfl
abbrev k5:Sk:=[(1,.v),(2,.x)]
def o13:=O 14
def B13 (P:PT):Y k5:=fun x1 x2 H=>
  ldI .i64 H x2 0 (fun v1=>ld1 H x2 1 (fun v2=>ld1 H x2 1 (fun v3=>lenK v3 (fun n4=>(AC Tryz.prog T0 34 [(Value.agg ⟨[(Value.int .i64 v1),v2]⟩),x1] H (fun v5 H6=>(ld1 H6 x2 1 (fun v8=>(v8=v3)∧(H6=H6)))∧(mkR H6 8 2 [(Value.int .i64 0)] (n4:Int) (n4:Int) (fun v10 H9=>B12 P v5 v10 H9))))∧(mkR H 8 2 [(Value.int .i64 0)] (n4:Int) (n4:Int) (fun v12 H11=>AC Tryz.prog T0 34 [(Value.agg ⟨[(Value.int .i64 v1),v2]⟩),x1] H11 (fun v13 H14=>(ld1 H14 x2 1 (fun v16=>(v16=v3)∧(H14=H14)))∧(B12 P v13 v12 H14))))))))
theorem q13 (P:PT):QT Tryz.prog T0 55 o13 (.op 0 [] (.op 1 [] (.op 3 [] (.op 4 [] (.op 5 [] (.alt (.op 2 [4] (.op 7 [] (.op 6 [] (.op 8 [] .done)))) (.op 6 [] (.op 2 [4] (.op 7 [] (.op 8 [] .done)))))))))) (En 55 k3 (B12 P)) k5 (B13 P):=fun _ _ _ _  => by kernel_rfl
abbrev k6:Sk:=[(6,J)]
def o14:=O 108
def B14 (P:PT):Y k6:=fun x6 H=>
  P (Value.tuple ⟨[(Value.slice none 0 0),(Value.int .i64 x6)]⟩) H
theorem q14 P:Q o14 (ret P) k6 (B14 P):=fun _ _ _=>by kernel_rfl
abbrev k7:Sk:=[(1,.v),(2,.x),(6,J)]
def o15:=O 26
def B15 (P:PT):Y k7:=fun x1 x2 x6 H=>
  pif ((x6:Int) != 0) (B14 P x6 H) (B13 P x1 x2 H)
theorem q15 P:Q o15 (cnd 15 (E k6 (B14 P)) (E k5 (B13 P))) k7 (B15 P):=fun _ _ _ _ _=>by kernel_rfl
def o16:=O 12
def B16 (P:PT):Y k5:=fun x1 x2 H=>
  ldI .i64 H x2 0 (fun v1=>ld1 H x2 1 (fun v2=>AC Tryz.prog T0 33 [(Value.agg ⟨[(Value.int .i64 v1),v2]⟩),x1] H (fun v3 H4=>asI .i64 v3 (fun v5=>B15 P x1 x2 v5 H4))))
theorem q16 P:Q o16 (E k7 (B15 P)) k5 (B16 P):=fun _ _ _ _=>by kernel_rfl
abbrev k8:Sk:=[(0,.g [.i,.v]),(1,.v)]
def o17:=O 2
def B17 (P:PT):Y k8:=fun x0a x0b x1 H=>
  newK H [(Value.int .i64 x0a),x0b] 26 (fun b1 H2=>B16 P x1 b1 H2)
theorem q17 P:Q o17 (E k5 (B16 P)) k8 (B17 P):=fun _ _ _ _ _=>by kernel_rfl
def code:Code:=(.seq (R 0 o17) (.seq (.seq (R 1 o16) (.seq (R 2 o15) (.cond (.tmp 15) (.seq (R 3 o14) .ret) .skip))) (.seq (.region 4 ⟨o13⟩ true) (.seq (.seq (R 5 o12) (.cond (.tmp 26) (.seq (R 6 o11) .ret) .skip)) (.seq (.seq (R 7 o10) (.block 0 (.loop (.seq (.seq (R 8 o9) (.cond (.tmp 30) .skip (.exit 0))) (.seq (.block 1 (.seq (R 10 o8) (.block 2 (.loop (.seq (.seq (R 11 o7) (.cond (.tmp 39) .skip (.exit 2))) (.seq (.block 3 (R 13 o6)) (R 12 o5))))))) (R 9 o3)))))) (.seq (R 14 o1) .ret))))))
theorem body:Tryz.f13.body=some code:=by kernel_rfl
theorem main (P:PT):∀ env H,(En 55 k8 (B17 P)) env H→AW Tryz.prog T0 code env H (M (ret P)):=
  (r_seq (b (q17 P)) (r_seq (r_seq (b (q16 P)) (r_seq (b (q15 P)) (r_cond rfl (r_seq (b (q14 P)) r_ret) r_skip))) (r_seq (rT T0_ok mixed (.op 0 [] (.op 1 [] (.op 3 [] (.op 4 [] (.op 5 [] (.alt (.op 2 [4] (.op 7 [] (.op 6 [] (.op 8 [] .done)))) (.op 6 [] (.op 2 [4] (.op 7 [] (.op 8 [] .done)))))))))) (by kernel_rfl) (q13 P)) (r_seq (r_seq (b (q12 P)) (r_cond rfl (r_seq (b (q11 P)) r_ret) r_skip)) (r_seq (r_seq (b (q10 P)) (r_block (rL (l2 P) (fun N2=>(r_seq (r_seq (b (q9 P N2)) (r_cond rfl r_skip (r_exit (fun _ _ h=>h)))) (r_seq (r_block (r_seq (b (q8 P N2)) (r_block (rL (l4 P N2) (fun N4=>(r_seq (r_seq (b (q7 P N2 N4)) (r_cond rfl r_skip (r_exit (fun _ _ h=>h)))) (r_seq (r_block (b (q6 P N2 N4))) (b (q5 P N2 N4))))))))) (b (q3 P N2)))))))) (r_seq (b (q1 P)) r_ret))))))
theorem ac (P:PT) (x0a:Int) (x0b x1:Value) (H:AHeap) (h:B17 P x0a x0b x1 H):AC Tryz.prog T0 13 [(Value.agg ⟨[(Value.int .i64 x0a),x0b]⟩),x1] H P:=
  r_fn T0_ok (c:=code) (n:=55) Tryz.func13 body (by kernel_rfl) (main P) (En_mk (x0a,x0b,x1,()) (by kernel_rfl) ⟨by kernel_rfl,by kernel_rfl,trivial⟩ h)

end F13
namespace F14
abbrev E:=En 6
abbrev Q:=QB Tryz.prog T0 6
def O (k:Nat):=ob Tryz.f14 (pth k)
def ret (P:PT):EP:=retE T0 6 Tryz.f14 P
abbrev k0:Sk:=[(0,.v),(2,.x)]
def o1:=O 6
def B1 (P:PT):Y k0:=fun x0 x2 H=>
  AC Tryz.prog T0 20 [x0] H (fun v1 H2=>AC Tryz.prog T0 36 [v1] H2 (fun v4 H5=>agg2 v4 (fun v6 v7=>asI .i64 v6 (fun v8=>stK H5 x2 0 [(Value.int .i64 v8),v7] (fun H10=>ldI .i64 H10 x2 0 (fun v11=>ld1 H10 x2 1 (fun v12=>P (Value.agg ⟨[(Value.int .i64 v11),v12]⟩) H10)))))))
theorem q1 P:Q o1 (ret P) k0 (B1 P):=fun _ _ _ _=>by kernel_rfl
abbrev k1:Sk:=[(0,.v)]
def o2:=O 2
def B2 (P:PT):Y k1:=fun x0 H=>
  newK H [(Value.int .i64 0),(Value.slice none 0 0)] 26 (fun b1 H2=>B1 P x0 b1 H2)
theorem q2 P:Q o2 (E k0 (B1 P)) k1 (B2 P):=fun _ _ _=>by kernel_rfl
def code:Code:=(.seq (R 0 o2) (.seq (R 1 o1) .ret))
theorem body:Tryz.f14.body=some code:=by kernel_rfl
theorem main (P:PT):∀ env H,(En 6 k1 (B2 P)) env H→AW Tryz.prog T0 code env H (M (ret P)):=
  (r_seq (b (q2 P)) (r_seq (b (q1 P)) r_ret))
theorem ac (P:PT) (x0:Value) (H:AHeap) (h:B2 P x0 H):AC Tryz.prog T0 14 [x0] H P:=
  r_fn T0_ok (c:=code) (n:=6) Tryz.func14 body (by kernel_rfl) (main P) (En_mk (x0,()) (by kernel_rfl) ⟨by kernel_rfl,trivial⟩ h)

end F14
namespace F15
abbrev E:=En 46
abbrev Q:=QB Tryz.prog T0 46
def O (k:Nat):=ob Tryz.f15 (pth k)
def ret (P:PT):EP:=retE T0 46 Tryz.f15 P
abbrev k0:Sk:=[(11,J)]
def o1:=O 8190
def B1 (P:PT):Y k0:=fun x11 H=>
  P (Value.tuple ⟨[(Value.int .i64 x11),(Value.int .i64 0)]⟩) H
theorem q1 P:Q o1 (ret P) k0 (B1 P):=fun _ _ _=>by kernel_rfl
abbrev k1:Sk:=[(10,.x),(11,J)]
def o3:=O 65506
def B3 (P:PT) (N2:Y k1):Y k1:=fun x10 x11 H=>
  N2 x10 (IntKind.i64.wrap (x11+1)) H
theorem q3 P N2:Q o3 (E k1 N2) k1 (B3 P N2):=fun _ _ _ _=>by kernel_rfl
def o4:=O 65504
def B4 (P:PT) (N2:Y k1):Y k1:=fun x10 x11 H=>
  ld1 H x10 0 (fun v1=>callV Tryz.prog T0 v1 [(Value.int .u64 0),(Value.int .i64 x11)] H (fun v2 H3=>asB v2 (fun v4=>pif (!v4) (B3 P N2 x10 x11 H3) (B1 P x11 H3))))
theorem q4 P N2:Q o4 (cnd 42 (E k1 (B3 P N2)) (E k0 (B1 P))) k1 (B4 P N2):=fun _ _ _ _=>by kernel_rfl
def L2 (P:PT):Y k1:=fun x10 x11 H=>
  ∃ (I:Y k1) (μ:NTy k1 (AHeap→Nat)),I x10 x11 H∧∀ y10 y11 G,I y10 y11 G→B4 P (fun z10 z11 G'=>I z10 z11 G'∧μ z10 z11 G'<μ y10 y11 G) y10 y11 G
theorem l2 P:LQ k1 (L2 P) (B4 P):=fun ⟨_,_,_⟩ _ ⟨I,μ,h0,hI⟩=>⟨apT _ I,apT _ μ,h0,fun ⟨_,_,_⟩ _ h=>hI _ _ _  h⟩
abbrev k2:Sk:=[(10,.x)]
def o5:=O 2046
def B5 (P:PT):Y k2:=fun x10 H=>
  L2 P x10 3 H
theorem q5 P:Q o5 (E k1 (L2 P)) k2 (B5 P):=fun _ _ _=>by kernel_rfl
abbrev k3:Sk:=[(1,.x),(5,.x),(10,.x)]
def o6:=O 1022
def B6 (P:PT):Y k3:=fun x1 x5 x10 H=>
  stK H x10 0 [(Value.func (.func 39) ⟨[]⟩ ⟨[(Value.pointer (some ⟨x1,0,none⟩)),(Value.pointer (some ⟨x5,0,none⟩)),(Value.pointer (some ⟨x10,0,none⟩))]⟩)] (fun H1=>B5 P x10 H1)
theorem q6 P:Q o6 (E k2 (B5 P)) k3 (B6 P):=fun _ _ _ _ _=>by kernel_rfl
abbrev k4:Sk:=[(1,.x),(5,.x)]
def o7:=O 510
def B7 (P:PT):Y k4:=fun x1 x5 H=>
  newK H [Value.nilFunc] 69 (fun b1 H2=>B6 P x1 x5 b1 H2)
theorem q7 P:Q o7 (E k3 (B6 P)) k4 (B7 P):=fun _ _ _ _=>by kernel_rfl
abbrev k5:Sk:=[]
def o8:=O 2036
def B8 (P:PT):Y k5:=fun H=>
  P (Value.tuple ⟨[(Value.int .i64 0),(Value.int .i64 4)]⟩) H
theorem q8 P:Q o8 (ret P) k5 (B8 P):=fun _ _=>by kernel_rfl
abbrev k6:Sk:=[(1,.x),(5,.x),(7,.i .u64)]
def o9:=O 508
def B9 (P:PT):Y k6:=fun x1 x5 x7 H=>
  ldI .i64 H x1 0 (fun v1=>ld1 H x1 1 (fun v2=>AC Tryz.prog T0 38 [(Value.agg ⟨[(Value.int .i64 v1),v2]⟩)] H (fun v3 H4=>asI .u64 v3 (fun v5=>pif ((x7:Int) != v5) (B8 P H4) (B7 P x1 x5 H4)))))
theorem q9 P:Q o9 (cnd 37 (E k5 (B8 P)) (E k4 (B7 P))) k6 (B9 P):=fun _ _ _ _ _=>by kernel_rfl
abbrev k7:Sk:=[(1,.x),(5,.x),(7,.i .u64),(24,.v),(25,J),(26,J)]
def o11:=O 8103
def B11 (P:PT) (N10:Y k7):Y k7:=fun x1 x5 x7 x24 x25 x26 H=>
  N10 x1 x5 x7 x24 x25 (IntKind.i64.wrap (x26+1)) H
theorem q11 P N10:Q o11 (E k7 N10) k7 (B11 P N10):=fun _ _ _ _ _ _ _ _=>by kernel_rfl
abbrev k8:Sk:=[(1,.x),(5,.x),(7,.i .u64),(9,.i .u64),(24,.v),(25,J),(26,J)]
def o12:=O 32409
def B12 (P:PT) (N10:Y k7):Y k8:=fun x1 x5 x7 x9 x24 x25 x26 H=>
  B11 P N10 x1 x5 (IntKind.u64.wrap (BitVec.ofInt 64 x7|||BitVec.ofInt 64 x9).toNat) x24 x25 x26 H
theorem q12 P N10:Q o12 (E k7 (B11 P N10)) k8 (B12 P N10):=fun _ _ _ _ _ _ _ _ _=>by kernel_rfl
def o13:=O 32408
def B13 (P:PT) (N10:Y k7):Y k7:=fun x1 x5 x7 x24 x25 x26 H=>
  idxK x24 x26 1 (fun b1 o2=>ldI .u64 H b1 o2 (fun v3=>B12 P N10 x1 x5 x7 v3 x24 x25 x26 H))
theorem q13 P N10:Q o13 (E k8 (B12 P N10)) k7 (B13 P N10):=fun _ _ _ _ _ _ _ _=>by kernel_rfl
def o14:=O 2024
def B14 (P:PT) (N10:Y k7):Y k7:=fun x1 x5 x7 x24 x25 x26 H=>
  pif (decide ((x26:Int)<x25)) (B13 P N10 x1 x5 x7 x24 x25 x26 H) (B9 P x1 x5 x7 H)
theorem q14 P N10:Q o14 (cnd 27 (E k7 (B13 P N10)) (E k6 (B9 P))) k7 (B14 P N10):=fun _ _ _ _ _ _ _ _=>by kernel_rfl
def L10 (P:PT):Y k7:=fun x1 x5 x7 x24 x25 x26 H=>
  ∃ (I:Y k7) (μ:NTy k7 (AHeap→Nat)),I x1 x5 x7 x24 x25 x26 H∧∀ y1 y5 y7 y24 y25 y26 G,I y1 y5 y7 y24 y25 y26 G→B14 P (fun z1 z5 z7 z24 z25 z26 G'=>I z1 z5 z7 z24 z25 z26 G'∧μ z1 z5 z7 z24 z25 z26 G'<μ y1 y5 y7 y24 y25 y26 G) y1 y5 y7 y24 y25 y26 G
theorem l10 P:LQ k7 (L10 P) (B14 P):=fun ⟨_,_,_,_,_,_,_⟩ _ ⟨I,μ,h0,hI⟩=>⟨apT _ I,apT _ μ,h0,fun ⟨_,_,_,_,_,_,_⟩ _ h=>hI _ _ _ _ _ _ _  h⟩
def o15:=O 252
def B15 (P:PT):Y k6:=fun x1 x5 x7 H=>
  ld1 H x5 0 (fun v1=>lenK v1 (fun n2=>L10 P x1 x5 x7 v1 (n2:Int) 0 H))
theorem q15 P:Q o15 (E k7 (L10 P)) k6 (B15 P):=fun _ _ _ _ _=>by kernel_rfl
def o16:=O 62
def B16 (P:PT):Y k4:=fun x1 x5 H=>
  B15 P x1 x5 0 H
theorem q16 P:Q o16 (E k6 (B15 P)) k4 (B16 P):=fun _ _ _ _=>by kernel_rfl
def o17:=O 244
def B17 (P:PT):Y k5:=fun H=>
  P (Value.tuple ⟨[(Value.int .i64 0),(Value.int .i64 3)]⟩) H
theorem q17 P:Q o17 (ret P) k5 (B17 P):=fun _ _=>by kernel_rfl
abbrev k9:Sk:=[(1,.x),(5,.x),(6,.b)]
def o18:=O 60
def B18 (P:PT):Y k9:=fun x1 x5 x6 H=>
  pif (!x6) (B17 P H) (B16 P x1 x5 H)
theorem q18 P:Q o18 (cnd 23 (E k5 (B17 P)) (E k4 (B16 P))) k9 (B18 P):=fun _ _ _ _ _=>by kernel_rfl
abbrev k10:Sk:=[(1,.x)]
def o19:=O 14
def B19 (P:PT):Y k10:=fun x1 H=>
  ldI .i64 H x1 0 (fun v1=>ld1 H x1 1 (fun v2=>AC Tryz.prog T0 37 [(Value.agg ⟨[(Value.int .i64 v1),v2]⟩)] H (fun v3 H4=>tup2 v3 (fun v5 v6=>asB v6 (fun v8=>newK H4 [(Value.slice none 0 0)] 56 (fun b9 H10=>pif (Value.oneCell' v5) (stK H10 b9 0 [v5] (fun H11=>B18 P x1 b9 v8 H11)) False))))))
theorem q19 P:Q o19 (E k9 (B18 P)) k10 (B19 P):=fun _ _ _=>by kernel_rfl
abbrev k11:Sk:=[(4,J)]
def o20:=O 108
def B20 (P:PT):Y k11:=fun x4 H=>
  P (Value.tuple ⟨[(Value.int .i64 0),(Value.int .i64 x4)]⟩) H
theorem q20 P:Q o20 (ret P) k11 (B20 P):=fun _ _ _=>by kernel_rfl
abbrev k12:Sk:=[(1,.x),(4,J)]
def o21:=O 26
def B21 (P:PT):Y k12:=fun x1 x4 H=>
  pif ((x4:Int) != 0) (B20 P x4 H) (B19 P x1 H)
theorem q21 P:Q o21 (cnd 15 (E k11 (B20 P)) (E k10 (B19 P))) k12 (B21 P):=fun _ _ _ _=>by kernel_rfl
def o22:=O 12
def B22 (P:PT):Y k10:=fun x1 H=>
  ldI .i64 H x1 0 (fun v1=>ld1 H x1 1 (fun v2=>AC Tryz.prog T0 21 [(Value.agg ⟨[(Value.int .i64 v1),v2]⟩),(Value.bool true)] H (fun v3 H4=>asI .i64 v3 (fun v5=>B21 P x1 v5 H4))))
theorem q22 P:Q o22 (E k12 (B21 P)) k10 (B22 P):=fun _ _ _=>by kernel_rfl
abbrev k13:Sk:=[(0,.g [.i,.v])]
def o23:=O 2
def B23 (P:PT):Y k13:=fun x0a x0b H=>
  newK H [(Value.int .i64 x0a),x0b] 26 (fun b1 H2=>B22 P b1 H2)
theorem q23 P:Q o23 (E k10 (B22 P)) k13 (B23 P):=fun _ _ _ _=>by kernel_rfl
def code:Code:=(.seq (R 0 o23) (.seq (.seq (R 1 o22) (.seq (R 2 o21) (.cond (.tmp 15) (.seq (R 3 o20) .ret) .skip))) (.seq (R 4 o19) (.seq (.seq (R 5 o18) (.cond (.tmp 23) (.seq (R 6 o17) .ret) .skip)) (.seq (R 7 o16) (.seq (.seq (R 8 o15) (.block 0 (.loop (.seq (R 9 o14) (.seq (.cond (.tmp 27) .skip (.exit 0)) (.seq (.block 1 (.seq (R 10 o13) (R 11 o12))) (R 12 o11))))))) (.seq (.seq (R 13 o9) (.cond (.tmp 37) (.seq (R 14 o8) .ret) .skip)) (.seq (R 15 o7) (.seq (R 16 o6) (.seq (R 17 o5) (.seq (.block 2 (.loop (.seq (.seq (R 18 o4) (.cond (.tmp 42) .skip (.exit 2))) (.block 3 (R 19 o3))))) (.seq (R 20 o1) .ret))))))))))))
theorem body:Tryz.f15.body=some code:=by kernel_rfl
theorem main (P:PT):∀ env H,(En 46 k13 (B23 P)) env H→AW Tryz.prog T0 code env H (M (ret P)):=
  (r_seq (b (q23 P)) (r_seq (r_seq (b (q22 P)) (r_seq (b (q21 P)) (r_cond rfl (r_seq (b (q20 P)) r_ret) r_skip))) (r_seq (b (q19 P)) (r_seq (r_seq (b (q18 P)) (r_cond rfl (r_seq (b (q17 P)) r_ret) r_skip)) (r_seq (b (q16 P)) (r_seq (r_seq (b (q15 P)) (r_block (rL (l10 P) (fun N10=>(r_seq (b (q14 P N10)) (r_seq (r_cond rfl r_skip (r_exit (fun _ _ h=>h))) (r_seq (r_block (r_seq (b (q13 P N10)) (b (q12 P N10)))) (b (q11 P N10))))))))) (r_seq (r_seq (b (q9 P)) (r_cond rfl (r_seq (b (q8 P)) r_ret) r_skip)) (r_seq (b (q7 P)) (r_seq (b (q6 P)) (r_seq (b (q5 P)) (r_seq (r_block (rL (l2 P) (fun N2=>(r_seq (r_seq (b (q4 P N2)) (r_cond rfl r_skip (r_exit (fun _ _ h=>h)))) (r_block (b (q3 P N2))))))) (r_seq (b (q1 P)) r_ret))))))))))))
theorem ac (P:PT) (x0a:Int) (x0b:Value) (H:AHeap) (h:B23 P x0a x0b H):AC Tryz.prog T0 15 [(Value.agg ⟨[(Value.int .i64 x0a),x0b]⟩)] H P:=
  r_fn T0_ok (c:=code) (n:=46) Tryz.func15 body (by kernel_rfl) (main P) (En_mk (x0a,x0b,()) (by kernel_rfl) ⟨by kernel_rfl,trivial⟩ h)

end F15
namespace F16
abbrev E:=En 37
abbrev Q:=QB Tryz.prog T0 37
def O (k:Nat):=ob Tryz.f16 (pth k)
def ret (P:PT):EP:=retE T0 37 Tryz.f16 P
abbrev k0:Sk:=[(1,.x),(4,.v),(6,J)]
def o2:=O 1017
def B2 (P:PT) (N1:Y k0):Y k0:=fun x1 x4 x6 H=>
  N1 x1 x4 (IntKind.i64.wrap (x6+1)) H
theorem q2 P N1:Q o2 (E k0 N1) k0 (B2 P N1):=fun _ _ _ _ _=>by kernel_rfl
abbrev k1:Sk:=[(6,J)]
def o3:=O 16260
def B3 (P:PT) (N1:Y k0):Y k1:=fun x6 H=>
  P (Value.tuple ⟨[(Value.int .i64 x6),(Value.int .i64 0)]⟩) H
theorem q3 P N1:Q o3 (ret P) k1 (B3 P N1):=fun _ _ _=>by kernel_rfl
def o4:=O 4064
def B4 (P:PT) (N1:Y k0):Y k0:=fun x1 x4 x6 H=>
  ldI .i64 H x1 0 (fun v1=>ld1 H x1 1 (fun v2=>ld1 H x1 1 (fun v3=>lenK v3 (fun n4=>mkR H 1 4 [(Value.bool false)] (n4:Int) (n4:Int) (fun v6 H5=>AC Tryz.prog T0 45 [(Value.agg ⟨[(Value.int .i64 v1),v2]⟩),x4,v6,(Value.int .i64 x6)] H5 (fun v7 H8=>asB v7 (fun v9=>pif v9 (B3 P N1 x6 H8) (B2 P N1 x1 x4 x6 H8))))))))
theorem q4 (P:PT) (N1:Y k0):QD Tryz.prog T0 37 o4 [(0,false),(1,false),(2,false),(3,false),(4,false),(6,false),(5,false),(7,false)] (cnd 35 (En 37 k1 (B3 P N1)) (En 37 k0 (B2 P N1))) k0 (B4 P N1):=fun _ _ _ _ _  => by kernel_rfl
def L1 (P:PT):Y k0:=fun x1 x4 x6 H=>
  ∃ (I:Y k0) (μ:NTy k0 (AHeap→Nat)),I x1 x4 x6 H∧∀ y1 y4 y6 G,I y1 y4 y6 G→B4 P (fun z1 z4 z6 G'=>I z1 z4 z6 G'∧μ z1 z4 z6 G'<μ y1 y4 y6 G) y1 y4 y6 G
theorem l1 P:LQ k0 (L1 P) (B4 P):=fun ⟨_,_,_,_⟩ _ ⟨I,μ,h0,hI⟩=>⟨apT _ I,apT _ μ,h0,fun ⟨_,_,_,_⟩ _ h=>hI _ _ _ _  h⟩
abbrev k2:Sk:=[(1,.x),(4,.v)]
def o5:=O 126
def B5 (P:PT):Y k2:=fun x1 x4 H=>
  L1 P x1 x4 3 H
theorem q5 P:Q o5 (E k0 (L1 P)) k2 (B5 P):=fun _ _ _ _=>by kernel_rfl
abbrev k3:Sk:=[(1,.x),(4,.v),(5,J)]
def o7:=O 2003
def B7 (P:PT) (N6:Y k3):Y k3:=fun x1 x4 x5 H=>
  N6 x1 x4 (IntKind.i64.wrap (x5+1)) H
theorem q7 P N6:Q o7 (E k3 N6) k3 (B7 P N6):=fun _ _ _ _ _=>by kernel_rfl
abbrev k4:Sk:=[]
def o8:=O 32036
def B8 (P:PT) (N6:Y k3):Y k4:=fun H=>
  P (Value.tuple ⟨[(Value.int .i64 0),(Value.int .i64 4)]⟩) H
theorem q8 P N6:Q o8 (ret P) k4 (B8 P N6):=fun _ _=>by kernel_rfl
def o9:=O 8008
def B9 (P:PT) (N6:Y k3):Y k3:=fun x1 x4 x5 H=>
  AC Tryz.prog T0 44 [x4,(Value.int .i64 x5)] H (fun v1 H2=>asI .i64 v1 (fun v3=>pif ((v3:Int)==0) (B8 P N6 H2) (B7 P N6 x1 x4 x5 H2)))
theorem q9 P N6:Q o9 (cnd 25 (E k4 (B8 P N6)) (E k3 (B7 P N6))) k3 (B9 P N6):=fun _ _ _ _ _=>by kernel_rfl
def o10:=O 2000
def B10 (P:PT) (N6:Y k3):Y k3:=fun x1 x4 x5 H=>
  ld1 H x1 1 (fun v1=>lenK v1 (fun n2=>pif (decide ((x5:Int)<(n2:Int))) (B9 P N6 x1 x4 x5 H) (B5 P x1 x4 H)))
theorem q10 P N6:Q o10 (cnd 19 (E k3 (B9 P N6)) (E k2 (B5 P))) k3 (B10 P N6):=fun _ _ _ _ _=>by kernel_rfl
def L6 (P:PT):Y k3:=fun x1 x4 x5 H=>
  ∃ (I:Y k3) (μ:NTy k3 (AHeap→Nat)),I x1 x4 x5 H∧∀ y1 y4 y5 G,I y1 y4 y5 G→B10 P (fun z1 z4 z5 G'=>I z1 z4 z5 G'∧μ z1 z4 z5 G'<μ y1 y4 y5 G) y1 y4 y5 G
theorem l6 P:LQ k3 (L6 P) (B10 P):=fun ⟨_,_,_,_⟩ _ ⟨I,μ,h0,hI⟩=>⟨apT _ I,apT _ μ,h0,fun ⟨_,_,_,_⟩ _ h=>hI _ _ _ _  h⟩
def o11:=O 124
def B11 (P:PT):Y k2:=fun x1 x4 H=>
  L6 P x1 x4 0 H
theorem q11 P:Q o11 (E k3 (L6 P)) k2 (B11 P):=fun _ _ _ _=>by kernel_rfl
def o12:=O 244
def B12 (P:PT):Y k4:=fun H=>
  P (Value.tuple ⟨[(Value.int .i64 0),(Value.int .i64 3)]⟩) H
theorem q12 P:Q o12 (ret P) k4 (B12 P):=fun _ _=>by kernel_rfl
def o13:=O 60
def B13 (P:PT):Y k2:=fun x1 x4 H=>
  lenK x4 (fun n1=>pif (decide (((n1:Int):Int)>60)) (B12 P H) (B11 P x1 x4 H))
theorem q13 P:Q o13 (cnd 14 (E k4 (B12 P)) (E k2 (B11 P))) k2 (B13 P):=fun _ _ _ _=>by kernel_rfl
abbrev k5:Sk:=[(1,.x)]
def o14:=O 14
def B14 (P:PT):Y k5:=fun x1 H=>
  ldI .i64 H x1 0 (fun v1=>ld1 H x1 1 (fun v2=>AC Tryz.prog T0 43 [(Value.agg ⟨[(Value.int .i64 v1),v2]⟩)] H (fun v3 H4=>B13 P x1 v3 H4)))
theorem q14 P:Q o14 (E k2 (B13 P)) k5 (B14 P):=fun _ _ _=>by kernel_rfl
def o15:=O 52
def B15 (P:PT):Y k4:=fun H=>
  P (Value.tuple ⟨[(Value.int .i64 0),(Value.int .i64 1)]⟩) H
theorem q15 P:Q o15 (ret P) k4 (B15 P):=fun _ _=>by kernel_rfl
def o16:=O 12
def B16 (P:PT):Y k5:=fun x1 H=>
  ldI .i64 H x1 0 (fun v1=>ld1 H x1 1 (fun v2=>AC Tryz.prog T0 23 [(Value.agg ⟨[(Value.int .i64 v1),v2]⟩)] H (fun v3 H4=>asB v3 (fun v5=>pif (!v5) (B15 P H4) (B14 P x1 H4)))))
theorem q16 P:Q o16 (cnd 9 (E k4 (B15 P)) (E k5 (B14 P))) k5 (B16 P):=fun _ _ _=>by kernel_rfl
abbrev k6:Sk:=[(0,.g [.i,.v])]
def o17:=O 2
def B17 (P:PT):Y k6:=fun x0a x0b H=>
  newK H [(Value.int .i64 x0a),x0b] 26 (fun b1 H2=>B16 P b1 H2)
theorem q17 P:Q o17 (E k5 (B16 P)) k6 (B17 P):=fun _ _ _ _=>by kernel_rfl
def code:Code:=(.seq (R 0 o17) (.seq (.seq (R 1 o16) (.cond (.tmp 9) (.seq (R 2 o15) .ret) .skip)) (.seq (R 3 o14) (.seq (.seq (R 4 o13) (.cond (.tmp 14) (.seq (R 5 o12) .ret) .skip)) (.seq (.seq (R 6 o11) (.block 0 (.loop (.seq (.seq (R 7 o10) (.cond (.tmp 19) .skip (.exit 0))) (.seq (.block 1 (.seq (R 9 o9) (.cond (.tmp 25) (.seq (R 10 o8) .ret) .skip))) (R 8 o7)))))) (.seq (R 11 o5) (.block 2 (.loop (.seq (.block 3 (.seq (.region 13 ⟨o4⟩ true) (.cond (.tmp 35) (.seq (R 14 o3) .ret) .skip))) (R 12 o2))))))))))
theorem body:Tryz.f16.body=some code:=by kernel_rfl
theorem main (P:PT):∀ env H,(En 37 k6 (B17 P)) env H→AW Tryz.prog T0 code env H (M (ret P)):=
  (r_seq (b (q17 P)) (r_seq (r_seq (b (q16 P)) (r_cond rfl (r_seq (b (q15 P)) r_ret) r_skip)) (r_seq (b (q14 P)) (r_seq (r_seq (b (q13 P)) (r_cond rfl (r_seq (b (q12 P)) r_ret) r_skip)) (r_seq (r_seq (b (q11 P)) (r_block (rL (l6 P) (fun N6=>(r_seq (r_seq (b (q10 P N6)) (r_cond rfl r_skip (r_exit (fun _ _ h=>h)))) (r_seq (r_block (r_seq (b (q9 P N6)) (r_cond rfl (r_seq (b (q8 P N6)) r_ret) r_skip))) (b (q7 P N6)))))))) (r_seq (b (q5 P)) (r_block (rL (l1 P) (fun N1=>(r_seq (r_block (r_seq (rD T0_ok mixed [(0,false),(1,false),(2,false),(3,false),(4,false),(6,false),(5,false),(7,false)] (by kernel_rfl) (q4 P N1)) (r_cond rfl (r_seq (b (q3 P N1)) r_ret) r_skip))) (b (q2 P N1))))))))))))
theorem ac (P:PT) (x0a:Int) (x0b:Value) (H:AHeap) (h:B17 P x0a x0b H):AC Tryz.prog T0 16 [(Value.agg ⟨[(Value.int .i64 x0a),x0b]⟩)] H P:=
  r_fn T0_ok (c:=code) (n:=37) Tryz.func16 body (by kernel_rfl) (main P) (En_mk (x0a,x0b,()) (by kernel_rfl) ⟨by kernel_rfl,trivial⟩ h)

end F16
namespace F17
abbrev E:=En 13
abbrev Q:=QB Tryz.prog T0 13
def O (k:Nat):=ob Tryz.f17 (pth k)
def ret (P:PT):EP:=retE T0 13 Tryz.f17 P
abbrev k0:Sk:=[(1,.x)]
def o1:=O 14
def B1 (P:PT):Y k0:=fun x1 H=>
  ldI .i64 H x1 0 (fun v1=>ld1 H x1 1 (fun v2=>AC Tryz.prog T0 46 [(Value.agg ⟨[(Value.int .i64 v1),v2]⟩)] H (fun v3 H4=>isNilK v3 (fun v6=>P (Value.tuple ⟨[(Value.bool (!v6)),(Value.int .i64 0)]⟩) H4))))
theorem q1 P:Q o1 (ret P) k0 (B1 P):=fun _ _ _=>by kernel_rfl
abbrev k1:Sk:=[(4,J)]
def o2:=O 108
def B2 (P:PT):Y k1:=fun x4 H=>
  P (Value.tuple ⟨[(Value.bool false),(Value.int .i64 x4)]⟩) H
theorem q2 P:Q o2 (ret P) k1 (B2 P):=fun _ _ _=>by kernel_rfl
abbrev k2:Sk:=[(1,.x),(4,J)]
def o3:=O 26
def B3 (P:PT):Y k2:=fun x1 x4 H=>
  pif ((x4:Int) != 0) (B2 P x4 H) (B1 P x1 H)
theorem q3 P:Q o3 (cnd 8 (E k1 (B2 P)) (E k0 (B1 P))) k2 (B3 P):=fun _ _ _ _=>by kernel_rfl
def o4:=O 12
def B4 (P:PT):Y k0:=fun x1 H=>
  ldI .i64 H x1 0 (fun v1=>ld1 H x1 1 (fun v2=>AC Tryz.prog T0 21 [(Value.agg ⟨[(Value.int .i64 v1),v2]⟩),(Value.bool true)] H (fun v3 H4=>asI .i64 v3 (fun v5=>B3 P x1 v5 H4))))
theorem q4 P:Q o4 (E k2 (B3 P)) k0 (B4 P):=fun _ _ _=>by kernel_rfl
abbrev k3:Sk:=[(0,.g [.i,.v])]
def o5:=O 2
def B5 (P:PT):Y k3:=fun x0a x0b H=>
  newK H [(Value.int .i64 x0a),x0b] 26 (fun b1 H2=>B4 P b1 H2)
theorem q5 P:Q o5 (E k0 (B4 P)) k3 (B5 P):=fun _ _ _ _=>by kernel_rfl
def code:Code:=(.seq (R 0 o5) (.seq (.seq (R 1 o4) (.seq (R 2 o3) (.cond (.tmp 8) (.seq (R 3 o2) .ret) .skip))) (.seq (R 4 o1) .ret)))
theorem body:Tryz.f17.body=some code:=by kernel_rfl
theorem main (P:PT):∀ env H,(En 13 k3 (B5 P)) env H→AW Tryz.prog T0 code env H (M (ret P)):=
  (r_seq (b (q5 P)) (r_seq (r_seq (b (q4 P)) (r_seq (b (q3 P)) (r_cond rfl (r_seq (b (q2 P)) r_ret) r_skip))) (r_seq (b (q1 P)) r_ret)))
theorem ac (P:PT) (x0a:Int) (x0b:Value) (H:AHeap) (h:B5 P x0a x0b H):AC Tryz.prog T0 17 [(Value.agg ⟨[(Value.int .i64 x0a),x0b]⟩)] H P:=
  r_fn T0_ok (c:=code) (n:=13) Tryz.func17 body (by kernel_rfl) (main P) (En_mk (x0a,x0b,()) (by kernel_rfl) ⟨by kernel_rfl,trivial⟩ h)

end F17
namespace F18
abbrev E:=En 15
abbrev Q:=QB Tryz.prog T0 15
def O (k:Nat):=ob Tryz.f18 (pth k)
def ret (P:PT):EP:=retE T0 15 Tryz.f18 P
abbrev k0:Sk:=[(1,.v),(2,.x)]
def o1:=O 14
def B1 (P:PT):Y k0:=fun x1 x2 H=>
  ldI .i64 H x2 0 (fun v1=>ld1 H x2 1 (fun v2=>AC Tryz.prog T0 47 [(Value.agg ⟨[(Value.int .i64 v1),v2]⟩),x1] H (fun v3 H4=>asB v3 (fun v5=>P (Value.tuple ⟨[(Value.bool v5),(Value.int .i64 0)]⟩) H4))))
theorem q1 P:Q o1 (ret P) k0 (B1 P):=fun _ _ _ _=>by kernel_rfl
abbrev k1:Sk:=[(6,J)]
def o2:=O 108
def B2 (P:PT):Y k1:=fun x6 H=>
  P (Value.tuple ⟨[(Value.bool false),(Value.int .i64 x6)]⟩) H
theorem q2 P:Q o2 (ret P) k1 (B2 P):=fun _ _ _=>by kernel_rfl
abbrev k2:Sk:=[(1,.v),(2,.x),(6,J)]
def o3:=O 26
def B3 (P:PT):Y k2:=fun x1 x2 x6 H=>
  pif ((x6:Int) != 0) (B2 P x6 H) (B1 P x1 x2 H)
theorem q3 P:Q o3 (cnd 10 (E k1 (B2 P)) (E k0 (B1 P))) k2 (B3 P):=fun _ _ _ _ _=>by kernel_rfl
def o4:=O 12
def B4 (P:PT):Y k0:=fun x1 x2 H=>
  ldI .i64 H x2 0 (fun v1=>ld1 H x2 1 (fun v2=>AC Tryz.prog T0 21 [(Value.agg ⟨[(Value.int .i64 v1),v2]⟩),(Value.bool true)] H (fun v3 H4=>asI .i64 v3 (fun v5=>B3 P x1 x2 v5 H4))))
theorem q4 P:Q o4 (E k2 (B3 P)) k0 (B4 P):=fun _ _ _ _=>by kernel_rfl
abbrev k3:Sk:=[(0,.g [.i,.v]),(1,.v)]
def o5:=O 2
def B5 (P:PT):Y k3:=fun x0a x0b x1 H=>
  newK H [(Value.int .i64 x0a),x0b] 26 (fun b1 H2=>B4 P x1 b1 H2)
theorem q5 P:Q o5 (E k0 (B4 P)) k3 (B5 P):=fun _ _ _ _ _=>by kernel_rfl
def code:Code:=(.seq (R 0 o5) (.seq (.seq (R 1 o4) (.seq (R 2 o3) (.cond (.tmp 10) (.seq (R 3 o2) .ret) .skip))) (.seq (R 4 o1) .ret)))
theorem body:Tryz.f18.body=some code:=by kernel_rfl
theorem main (P:PT):∀ env H,(En 15 k3 (B5 P)) env H→AW Tryz.prog T0 code env H (M (ret P)):=
  (r_seq (b (q5 P)) (r_seq (r_seq (b (q4 P)) (r_seq (b (q3 P)) (r_cond rfl (r_seq (b (q2 P)) r_ret) r_skip))) (r_seq (b (q1 P)) r_ret)))
theorem ac (P:PT) (x0a:Int) (x0b x1:Value) (H:AHeap) (h:B5 P x0a x0b x1 H):AC Tryz.prog T0 18 [(Value.agg ⟨[(Value.int .i64 x0a),x0b]⟩),x1] H P:=
  r_fn T0_ok (c:=code) (n:=15) Tryz.func18 body (by kernel_rfl) (main P) (En_mk (x0a,x0b,x1,()) (by kernel_rfl) ⟨by kernel_rfl,by kernel_rfl,trivial⟩ h)

end F18
namespace F19
abbrev E:=En 7
abbrev Q:=QB Tryz.prog T0 7
def O (k:Nat):=ob Tryz.f19 (pth k)
def ret (P:PT):EP:=retE T0 7 Tryz.f19 P
abbrev k0:Sk:=[(0,.v),(2,.x)]
def o1:=O 6
def B1 (P:PT):Y k0:=fun x0 x2 H=>
  AC Tryz.prog T0 49 [x0] H (fun v1 H2=>agg2 v1 (fun v3 v4=>asI .i64 v3 (fun v5=>AC Tryz.prog T0 48 [x0,(Value.agg ⟨[(Value.int .i64 v5),v4]⟩)] H2 (fun v7 H8=>agg2 v7 (fun v9 v10=>asI .i64 v9 (fun v11=>stK H8 x2 0 [(Value.int .i64 v11),v10] (fun H13=>ldI .i64 H13 x2 0 (fun v14=>ld1 H13 x2 1 (fun v15=>P (Value.agg ⟨[(Value.int .i64 v14),v15]⟩) H13)))))))))
theorem q1 P:Q o1 (ret P) k0 (B1 P):=fun _ _ _ _=>by kernel_rfl
abbrev k1:Sk:=[(0,.v)]
def o2:=O 2
def B2 (P:PT):Y k1:=fun x0 H=>
  newK H [(Value.int .i64 0),(Value.slice none 0 0)] 26 (fun b1 H2=>B1 P x0 b1 H2)
theorem q2 P:Q o2 (E k0 (B1 P)) k1 (B2 P):=fun _ _ _=>by kernel_rfl
def code:Code:=(.seq (R 0 o2) (.seq (R 1 o1) .ret))
theorem body:Tryz.f19.body=some code:=by kernel_rfl
theorem main (P:PT):∀ env H,(En 7 k1 (B2 P)) env H→AW Tryz.prog T0 code env H (M (ret P)):=
  (r_seq (b (q2 P)) (r_seq (b (q1 P)) r_ret))
theorem ac (P:PT) (x0:Value) (H:AHeap) (h:B2 P x0 H):AC Tryz.prog T0 19 [x0] H P:=
  r_fn T0_ok (c:=code) (n:=7) Tryz.func19 body (by kernel_rfl) (main P) (En_mk (x0,()) (by kernel_rfl) ⟨by kernel_rfl,trivial⟩ h)

end F19
namespace F20
abbrev E:=En 38
abbrev Q:=QB Tryz.prog T0 38
def O (k:Nat):=ob Tryz.f20 (pth k)
def ret (P:PT):EP:=retE T0 38 Tryz.f20 P
abbrev k0:Sk:=[(3,.v)]
def o1:=O 30
def B1 (P:PT):Y k0:=fun x3 H=>
  P x3 H
theorem q1 P:Q o1 (ret P) k0 (B1 P):=fun _ _ _=>by kernel_rfl
abbrev k1:Sk:=[(0,.v),(3,.v),(4,J)]
def o3:=O 467
def B3 (P:PT) (N2:Y k1):Y k1:=fun x0 x3 x4 H=>
  N2 x0 x3 (IntKind.i64.wrap (x4+1)) H
theorem q3 P N2:Q o3 (E k1 N2) k1 (B3 P N2):=fun _ _ _ _ _=>by kernel_rfl
def o4:=O 932
def B4 (P:PT) (N2:Y k1):Y k1:=fun x0 x3 x4 H=>
  nilK x3 (fun v1=>asP v1 (fun b2 o3=>ldI .u64 H b2 (o3+2) (fun v4=>idxK x0 x4 1 (fun b5 o6=>ldI .u8 H b5 o6 (fun v7=>nilK x3 (fun v8=>asP v8 (fun b9 o10=>stK H b9 (o10+2) [(Value.int .u64 (IntKind.u64.wrap ((IntKind.u64.wrap ((IntKind.u64.wrap (v4*1099511628211))+(IntKind.u64.wrap v7)))+151)))] (fun H11=>B3 P N2 x0 x3 x4 H11))))))))
theorem q4 (P:PT) (N2:Y k1):QD Tryz.prog T0 38 o4 [(0,false),(1,false),(2,false),(3,false),(4,false),(5,false),(6,false),(7,false),(8,false),(9,false),(10,false),(11,false),(12,false),(13,false),(14,false),(15,false)] (En 38 k1 (B3 P N2)) k1 (B4 P N2):=fun _ _ _ _ _  => by kernel_rfl
def o5:=O 464
def B5 (P:PT) (N2:Y k1):Y k1:=fun x0 x3 x4 H=>
  lenK x0 (fun n1=>pif (decide ((x4:Int)<(n1:Int))) (pif (decide ((x4:Int)<4096)) (B4 P N2 x0 x3 x4 H) (B1 P x3 H)) (B1 P x3 H))
theorem q5 P N2:Q o5 (cnd 19 (E k1 (B4 P N2)) (E k0 (B1 P))) k1 (B5 P N2):=fun _ _ _ _ _=>by kernel_rfl
def L2 (P:PT):Y k1:=fun x0 x3 x4 H=>
  ∃ (I:Y k1) (μ:NTy k1 (AHeap→Nat)),I x0 x3 x4 H∧∀ y0 y3 y4 G,I y0 y3 y4 G→B5 P (fun z0 z3 z4 G'=>I z0 z3 z4 G'∧μ z0 z3 z4 G'<μ y0 y3 y4 G) y0 y3 y4 G
theorem l2 P:LQ k1 (L2 P) (B5 P):=fun ⟨_,_,_,_⟩ _ ⟨I,μ,h0,hI⟩=>⟨apT _ I,apT _ μ,h0,fun ⟨_,_,_,_⟩ _ h=>hI _ _ _ _  h⟩
abbrev k2:Sk:=[(0,.v),(3,.v)]
def o6:=O 28
def B6 (P:PT):Y k2:=fun x0 x3 H=>
  L2 P x0 x3 0 H
theorem q6 P:Q o6 (E k1 (L2 P)) k2 (B6 P):=fun _ _ _ _=>by kernel_rfl
abbrev k3:Sk:=[(0,.v)]
def o7:=O 6
def B7 (P:PT):Y k3:=fun x0 H=>
  lenK x0 (fun n1=>pif (Value.oneCell' x0) (newK H [x0,(Value.int .i64 0),(Value.int .u64 (IntKind.u64.wrap (13291+(IntKind.u64.wrap (n1:Int)))))] 79 (fun b2 H3=>B6 P x0 (Value.pointer (some ⟨b2,0,none⟩)) H3)) False)
theorem q7 P:Q o7 (E k2 (B6 P)) k3 (B7 P):=fun _ _ _=>by kernel_rfl
def o8:=O 2
def B8 (P:PT):Y k3:=fun x0 H=>
  B7 P x0 H
theorem q8 P:Q o8 (E k3 (B7 P)) k3 (B8 P):=fun _ _ _=>by kernel_rfl
def code:Code:=(.seq (R 0 o8) (.seq (R 1 o7) (.seq (.seq (R 2 o6) (.block 0 (.loop (.seq (.seq (R 3 o5) (.cond (.tmp 19) .skip (.exit 0))) (.seq (.block 1 (.region 5 ⟨o4⟩ true)) (R 4 o3)))))) (.seq (R 6 o1) .ret))))
theorem body:Tryz.f20.body=some code:=by kernel_rfl
theorem main (P:PT):∀ env H,(En 38 k3 (B8 P)) env H→AW Tryz.prog T0 code env H (M (ret P)):=
  (r_seq (b (q8 P)) (r_seq (b (q7 P)) (r_seq (r_seq (b (q6 P)) (r_block (rL (l2 P) (fun N2=>(r_seq (r_seq (b (q5 P N2)) (r_cond rfl r_skip (r_exit (fun _ _ h=>h)))) (r_seq (r_block (rD T0_ok mixed [(0,false),(1,false),(2,false),(3,false),(4,false),(5,false),(6,false),(7,false),(8,false),(9,false),(10,false),(11,false),(12,false),(13,false),(14,false),(15,false)] (by kernel_rfl) (q4 P N2))) (b (q3 P N2)))))))) (r_seq (b (q1 P)) r_ret))))
theorem ac (P:PT) (x0:Value) (H:AHeap) (h:B8 P x0 H):AC Tryz.prog T0 20 [x0] H P:=
  r_fn T0_ok (c:=code) (n:=38) Tryz.func20 body (by kernel_rfl) (main P) (En_mk (x0,()) (by kernel_rfl) ⟨by kernel_rfl,trivial⟩ h)

end F20
namespace F21
abbrev E:=En 12
abbrev Q:=QB Tryz.prog T0 12
def O (k:Nat):=ob Tryz.f21 (pth k)
def ret (P:PT):EP:=retE T0 12 Tryz.f21 P
abbrev k0:Sk:=[]
def o1:=O 14
def B1 (P:PT):Y k0:=fun H=>
  P (Value.int .i64 0) H
theorem q1 P:Q o1 (ret P) k0 (B1 P):=fun _ _=>by kernel_rfl
def o2:=O 100
def B2 (P:PT):Y k0:=fun H=>
  P (Value.int .i64 1) H
theorem q2 P:Q o2 (ret P) k0 (B2 P):=fun _ _=>by kernel_rfl
def o3:=O 412
def B3 (P:PT):Y k0:=fun H=>
  P (Value.int .i64 2) H
theorem q3 P:Q o3 (ret P) k0 (B3 P):=fun _ _=>by kernel_rfl
abbrev k1:Sk:=[(1,.b)]
def o4:=O 102
def B4 (P:PT):Y k1:=fun x1 H=>
  pif (!x1) (B3 P H) (B1 P H)
theorem q4 P:Q o4 (cnd 9 (E k0 (B3 P)) (E k0 (B1 P))) k1 (B4 P):=fun _ _ _=>by kernel_rfl
abbrev k2:Sk:=[(1,.b),(2,.x)]
def o5:=O 24
def B5 (P:PT):Y k2:=fun x1 x2 H=>
  ldI .i64 H x2 0 (fun v1=>ld1 H x2 1 (fun v2=>AC Tryz.prog T0 50 [(Value.agg ⟨[(Value.int .i64 v1),v2]⟩)] H (fun v3 H4=>asB v3 (fun v5=>pif (!v5) (B2 P H4) (B4 P x1 H4)))))
theorem q5 P:Q o5 (cnd 5 (E k0 (B2 P)) (E k1 (B4 P))) k2 (B5 P):=fun _ _ _ _=>by kernel_rfl
abbrev k3:Sk:=[(0,.g [.i,.v]),(1,.b)]
def o6:=O 2
def B6 (P:PT):Y k3:=fun x0a x0b x1 H=>
  newK H [(Value.int .i64 x0a),x0b] 26 (fun b1 H2=>B5 P x1 b1 H2)
theorem q6 P:Q o6 (E k2 (B5 P)) k3 (B6 P):=fun _ _ _ _ _=>by kernel_rfl
def code:Code:=(.seq (R 0 o6) (.seq (.block 0 (.seq (R 1 o5) (.cond (.tmp 5) (.seq (R 2 o2) .ret) (.seq (R 3 o4) (.cond (.tmp 9) (.seq (R 4 o3) .ret) .skip))))) (.seq (R 5 o1) .ret)))
theorem body:Tryz.f21.body=some code:=by kernel_rfl
theorem main (P:PT):∀ env H,(En 12 k3 (B6 P)) env H→AW Tryz.prog T0 code env H (M (ret P)):=
  (r_seq (b (q6 P)) (r_seq (r_block (r_seq (b (q5 P)) (r_cond rfl (r_seq (b (q2 P)) r_ret) (r_seq (b (q4 P)) (r_cond rfl (r_seq (b (q3 P)) r_ret) r_skip))))) (r_seq (b (q1 P)) r_ret)))
theorem ac (P:PT) (x0a:Int) (x0b:Value) (x1:Bool) (H:AHeap) (h:B6 P x0a x0b x1 H):AC Tryz.prog T0 21 [(Value.agg ⟨[(Value.int .i64 x0a),x0b]⟩),(Value.bool x1)] H P:=
  r_fn T0_ok (c:=code) (n:=12) Tryz.func21 body (by kernel_rfl) (main P) (En_mk (x0a,x0b,x1,()) (by kernel_rfl) ⟨by kernel_rfl,by kernel_rfl,trivial⟩ h)

end F21
namespace F22
abbrev E:=En 14
abbrev Q:=QB Tryz.prog T0 14
def O (k:Nat):=ob Tryz.f22 (pth k)
def ret (P:PT):EP:=retE T0 14 Tryz.f22 P
abbrev k0:Sk:=[(5,.x),(6,.x)]
def o1:=O 62
def B1 (P:PT):Y k0:=fun x5 x6 H=>
  ldI .u64 H x5 0 (fun v1=>ldI .i64 H x6 0 (fun v2=>ldI .i64 H x6 0 (fun v3=>P (Value.tuple ⟨[(Value.int .u64 v1),(Value.int .i64 v2),(Value.bool ((v3:Int) != (-1)))]⟩) H)))
theorem q1 (P:PT):QD Tryz.prog T0 14 o1 [(0,false),(1,false),(2,false),(3,false),(4,false),(5,false),(6,false)] (ret P) k0 (B1 P):=fun _ _ _ _  => by kernel_rfl
abbrev k1:Sk:=[(1,.x),(5,.x),(6,.x)]
def o2:=O 30
def B2 (P:PT):Y k1:=fun x1 x5 x6 H=>
  ldI .i64 H x1 0 (fun v1=>ld1 H x1 1 (fun v2=>AC Tryz.prog T0 51 [(Value.agg ⟨[(Value.int .i64 v1),v2]⟩),(Value.func (.func 52) ⟨[]⟩ ⟨[(Value.pointer (some ⟨x1,0,none⟩)),(Value.pointer (some ⟨x6,0,none⟩)),(Value.pointer (some ⟨x5,0,none⟩))]⟩)] H (fun v3 H4=>asB v3 (fun v5=>B1 P x5 x6 H4))))
theorem q2 P:Q o2 (E k0 (B1 P)) k1 (B2 P):=fun _ _ _ _ _=>by kernel_rfl
abbrev k2:Sk:=[(1,.x),(5,.x)]
def o3:=O 14
def B3 (P:PT):Y k2:=fun x1 x5 H=>
  newK H [(Value.int .i64 0)] 2 (fun b1 H2=>stK H2 b1 0 [(Value.int .i64 (-1))] (fun H3=>B2 P x1 x5 b1 H3))
theorem q3 P:Q o3 (E k1 (B2 P)) k2 (B3 P):=fun _ _ _ _=>by kernel_rfl
abbrev k3:Sk:=[(1,.x)]
def o4:=O 6
def B4 (P:PT):Y k3:=fun x1 H=>
  newK H [(Value.int .u64 0)] 45 (fun b1 H2=>B3 P x1 b1 H2)
theorem q4 P:Q o4 (E k2 (B3 P)) k3 (B4 P):=fun _ _ _=>by kernel_rfl
abbrev k4:Sk:=[(0,.g [.i,.v])]
def o5:=O 2
def B5 (P:PT):Y k4:=fun x0a x0b H=>
  newK H [(Value.int .i64 x0a),x0b] 26 (fun b1 H2=>B4 P b1 H2)
theorem q5 P:Q o5 (E k3 (B4 P)) k4 (B5 P):=fun _ _ _ _=>by kernel_rfl
def code:Code:=(.seq (R 0 o5) (.seq (R 1 o4) (.seq (R 2 o3) (.seq (R 3 o2) (.seq (.region 4 ⟨o1⟩ true) .ret)))))
theorem body:Tryz.f22.body=some code:=by kernel_rfl
theorem main (P:PT):∀ env H,(En 14 k4 (B5 P)) env H→AW Tryz.prog T0 code env H (M (ret P)):=
  (r_seq (b (q5 P)) (r_seq (b (q4 P)) (r_seq (b (q3 P)) (r_seq (b (q2 P)) (r_seq (rD T0_ok mixed [(0,false),(1,false),(2,false),(3,false),(4,false),(5,false),(6,false)] (by kernel_rfl) (q1 P)) r_ret)))))
theorem ac (P:PT) (x0a:Int) (x0b:Value) (H:AHeap) (h:B5 P x0a x0b H):AC Tryz.prog T0 22 [(Value.agg ⟨[(Value.int .i64 x0a),x0b]⟩)] H P:=
  r_fn T0_ok (c:=code) (n:=14) Tryz.func22 body (by kernel_rfl) (main P) (En_mk (x0a,x0b,()) (by kernel_rfl) ⟨by kernel_rfl,trivial⟩ h)

end F22
namespace F23
abbrev E:=En 56
abbrev Q:=QB Tryz.prog T0 56
def O (k:Nat):=ob Tryz.f23 (pth k)
def ret (P:PT):EP:=retE T0 56 Tryz.f23 P
abbrev k0:Sk:=[]
def o1:=O 30
def B1 (P:PT):Y k0:=fun H=>
  P (Value.bool true) H
theorem q1 P:Q o1 (ret P) k0 (B1 P):=fun _ _=>by kernel_rfl
abbrev k1:Sk:=[(1,.x),(3,J)]
def o3:=O 467
def B3 (P:PT) (N2:Y k1):Y k1:=fun x1 x3 H=>
  N2 x1 (IntKind.i64.wrap (x3+1)) H
theorem q3 P N2:Q o3 (E k1 N2) k1 (B3 P N2):=fun _ _ _ _=>by kernel_rfl
def o4:=O 7460
def B4 (P:PT) (N2:Y k1):Y k0:=fun H=>
  P (Value.bool false) H
theorem q4 P N2:Q o4 (ret P) k0 (B4 P N2):=fun _ _=>by kernel_rfl
def o5:=O 1864
def B5 (P:PT) (N2:Y k1):Y k1:=fun x1 x3 H=>
  ld1 H x1 1 (fun v1=>idxK v1 x3 2 (fun b2 o3=>ldI .i64 H b2 o3 (fun v4=>ld1 H x1 1 (fun v5=>idxK v5 x3 2 (fun b6 o7=>ldI .i64 H b6 (o7+1) (fun v8=>pif (decide ((v4:Int)>v8)) (B4 P N2 H) (pif (decide ((x3:Int)>0)) (ld1 H x1 1 (fun v9=>idxK v9 x3 2 (fun b10 o11=>ldI .i64 H b10 o11 (fun v12=>ldI .i64 H b10 (o11+1) (fun v13=>ld1 H x1 1 (fun v14=>idxK v14 (IntKind.i64.wrap (x3-1)) 2 (fun b15 o16=>ldI .i64 H b15 o16 (fun v17=>ldI .i64 H b15 (o16+1) (fun v18=>AC Tryz.prog T0 55 [(Value.agg ⟨[(Value.int .i64 v12),(Value.int .i64 v13)]⟩),(Value.agg ⟨[(Value.int .i64 v17),(Value.int .i64 v18)]⟩)] H (fun v19 H20=>asB v19 (fun v21=>pif v21 (B4 P N2 H20) (B3 P N2 x1 x3 H20)))))))))))) (B3 P N2 x1 x3 H))))))))
theorem q5 (P:PT) (N2:Y k1):QD Tryz.prog T0 56 o5 [(0,false),(1,false),(2,false),(3,false),(4,false),(5,false),(6,false),(7,false),(8,false),(9,false),(10,false),(11,false),(12,false),(13,false),(14,false),(15,false),(16,false),(17,false),(18,false),(19,false),(20,false),(21,false),(22,false),(23,false),(24,false),(25,false),(26,false),(27,false),(28,false),(29,false),(30,false)] (cnd 55 (En 56 k0 (B4 P N2)) (En 56 k1 (B3 P N2))) k1 (B5 P N2):=fun _ _ _ _  => by kernel_rfl
def o6:=O 464
def B6 (P:PT) (N2:Y k1):Y k1:=fun x1 x3 H=>
  ld1 H x1 1 (fun v1=>lenK v1 (fun n2=>pif (decide ((x3:Int)<(n2:Int))) (B5 P N2 x1 x3 H) (B1 P H)))
theorem q6 P N2:Q o6 (cnd 22 (E k1 (B5 P N2)) (E k0 (B1 P))) k1 (B6 P N2):=fun _ _ _ _=>by kernel_rfl
def L2 (P:PT):Y k1:=fun x1 x3 H=>
  ∃ (I:Y k1) (μ:NTy k1 (AHeap→Nat)),I x1 x3 H∧∀ y1 y3 G,I y1 y3 G→B6 P (fun z1 z3 G'=>I z1 z3 G'∧μ z1 z3 G'<μ y1 y3 G) y1 y3 G
theorem l2 P:LQ k1 (L2 P) (B6 P):=fun ⟨_,_,_⟩ _ ⟨I,μ,h0,hI⟩=>⟨apT _ I,apT _ μ,h0,fun ⟨_,_,_⟩ _ h=>hI _ _ _  h⟩
abbrev k2:Sk:=[(1,.x)]
def o7:=O 28
def B7 (P:PT):Y k2:=fun x1 H=>
  L2 P x1 0 H
theorem q7 P:Q o7 (E k1 (L2 P)) k2 (B7 P):=fun _ _ _=>by kernel_rfl
def o8:=O 52
def B8 (P:PT):Y k0:=fun H=>
  P (Value.bool false) H
theorem q8 P:Q o8 (ret P) k0 (B8 P):=fun _ _=>by kernel_rfl
def o9:=O 12
def B9 (P:PT):Y k2:=fun x1 H=>
  ldI .i64 H x1 0 (fun v1=>ld1 H x1 1 (fun v2=>AC Tryz.prog T0 53 [(Value.int .i64 v1),v2] H (fun v3 H4=>asI .i64 v3 (fun v5=>pif ((v5:Int) != 0) (B8 P H4) (ldI .i64 H4 x1 0 (fun v6=>ld1 H4 x1 1 (fun v7=>AC Tryz.prog T0 54 [(Value.int .i64 v6),v7] H4 (fun v8 H9=>asB v8 (fun v10=>pif (!v10) (B8 P H9) (B7 P x1 H9))))))))))
theorem q9 P:Q o9 (cnd 17 (E k0 (B8 P)) (E k2 (B7 P))) k2 (B9 P):=fun _ _ _=>by kernel_rfl
abbrev k3:Sk:=[(0,.g [.i,.v])]
def o10:=O 2
def B10 (P:PT):Y k3:=fun x0a x0b H=>
  newK H [(Value.int .i64 x0a),x0b] 26 (fun b1 H2=>B9 P b1 H2)
theorem q10 P:Q o10 (E k2 (B9 P)) k3 (B10 P):=fun _ _ _ _=>by kernel_rfl
def code:Code:=(.seq (R 0 o10) (.seq (.seq (R 1 o9) (.cond (.tmp 17) (.seq (R 2 o8) .ret) .skip)) (.seq (.seq (R 3 o7) (.block 0 (.loop (.seq (.seq (R 4 o6) (.cond (.tmp 22) .skip (.exit 0))) (.seq (.block 1 (.seq (.region 6 ⟨o5⟩ true) (.cond (.tmp 55) (.seq (R 7 o4) .ret) .skip))) (R 5 o3)))))) (.seq (R 8 o1) .ret))))
theorem body:Tryz.f23.body=some code:=by kernel_rfl
theorem main (P:PT):∀ env H,(En 56 k3 (B10 P)) env H→AW Tryz.prog T0 code env H (M (ret P)):=
  (r_seq (b (q10 P)) (r_seq (r_seq (b (q9 P)) (r_cond rfl (r_seq (b (q8 P)) r_ret) r_skip)) (r_seq (r_seq (b (q7 P)) (r_block (rL (l2 P) (fun N2=>(r_seq (r_seq (b (q6 P N2)) (r_cond rfl r_skip (r_exit (fun _ _ h=>h)))) (r_seq (r_block (r_seq (rD T0_ok mixed [(0,false),(1,false),(2,false),(3,false),(4,false),(5,false),(6,false),(7,false),(8,false),(9,false),(10,false),(11,false),(12,false),(13,false),(14,false),(15,false),(16,false),(17,false),(18,false),(19,false),(20,false),(21,false),(22,false),(23,false),(24,false),(25,false),(26,false),(27,false),(28,false),(29,false),(30,false)] (by kernel_rfl) (q5 P N2)) (r_cond rfl (r_seq (b (q4 P N2)) r_ret) r_skip))) (b (q3 P N2)))))))) (r_seq (b (q1 P)) r_ret))))
theorem ac (P:PT) (x0a:Int) (x0b:Value) (H:AHeap) (h:B10 P x0a x0b H):AC Tryz.prog T0 23 [(Value.agg ⟨[(Value.int .i64 x0a),x0b]⟩)] H P:=
  r_fn T0_ok (c:=code) (n:=56) Tryz.func23 body (by kernel_rfl) (main P) (En_mk (x0a,x0b,()) (by kernel_rfl) ⟨by kernel_rfl,trivial⟩ h)

end F23
namespace F24
abbrev E:=En 43
abbrev Q:=QB Tryz.prog T0 43
def O (k:Nat):=ob Tryz.f24 (pth k)
def ret (P:PT):EP:=retE T0 43 Tryz.f24 P
abbrev k0:Sk:=[(5,.v),(6,.v),(7,J)]
def o1:=O 30
def B1 (P:PT):Y k0:=fun x5 x6 x7 H=>
  lenK x5 (fun n1=>P (Value.tuple ⟨[x6,(Value.int .i64 x7),(Value.bool (decide (((n1:Int):Int)>0)))]⟩) H)
theorem q1 P:Q o1 (ret P) k0 (B1 P):=fun _ _ _ _ _=>by kernel_rfl
abbrev k1:Sk:=[(1,.x),(5,.v),(6,.v),(7,J),(8,J)]
def o3:=O 467
def B3 (P:PT) (N2:Y k1):Y k1:=fun x1 x5 x6 x7 x8 H=>
  N2 x1 x5 x6 x7 (IntKind.i64.wrap (x8+1)) H
theorem q3 P N2:Q o3 (E k1 N2) k1 (B3 P N2):=fun _ _ _ _ _ _ _=>by kernel_rfl
abbrev k2:Sk:=[(1,.x),(5,.v),(6,.v),(8,J),(9,J)]
def o4:=O 14925
def B4 (P:PT) (N2:Y k1):Y k2:=fun x1 x5 x6 x8 x9 H=>
  B3 P N2 x1 x5 x6 x9 x8 H
theorem q4 P N2:Q o4 (E k1 (B3 P N2)) k2 (B4 P N2):=fun _ _ _ _ _ _ _=>by kernel_rfl
abbrev k3:Sk:=[(1,.x),(5,.v),(8,J),(9,J)]
def o5:=O 14924
def B5 (P:PT) (N2:Y k1):Y k3:=fun x1 x5 x8 x9 H=>
  idxK x5 x8 1 (fun b1 o2=>ld1 H b1 o2 (fun v3=>B4 P N2 x1 x5 v3 x8 x9 H))
theorem q5 P N2:Q o5 (E k2 (B4 P N2)) k3 (B5 P N2):=fun _ _ _ _ _ _=>by kernel_rfl
abbrev k4:Sk:=[(1,.x),(5,.v),(6,.v),(7,J),(8,J),(9,J)]
def o6:=O 3730
def B6 (P:PT) (N2:Y k1):Y k4:=fun x1 x5 x6 x7 x8 x9 H=>
  pif (decide ((x7:Int)<0)) (B5 P N2 x1 x5 x8 x9 H) (pif (decide ((x9:Int)<x7)) (B5 P N2 x1 x5 x8 x9 H) (B3 P N2 x1 x5 x6 x7 x8 H))
theorem q6 P N2:Q o6 (cnd 32 (E k3 (B5 P N2)) (E k1 (B3 P N2))) k4 (B6 P N2):=fun _ _ _ _ _ _ _ _=>by kernel_rfl
def o7:=O 1864
def B7 (P:PT) (N2:Y k1):Y k1:=fun x1 x5 x6 x7 x8 H=>
  ldI .i64 H x1 0 (fun v1=>ld1 H x1 1 (fun v2=>idxK x5 x8 1 (fun b3 o4=>ld1 H b3 o4 (fun v5=>AC Tryz.prog T0 34 [(Value.agg ⟨[(Value.int .i64 v1),v2]⟩),v5] H (fun v6 H7=>AC Tryz.prog T0 35 [v6] H7 (fun v9 H10=>asI .i64 v9 (fun v11=>B6 P N2 x1 x5 x6 x7 x8 v11 H10)))))))
theorem q7 (P:PT) (N2:Y k1):QD Tryz.prog T0 43 o7 [(0,false),(1,false),(2,false),(3,false),(4,false),(5,false),(6,false),(7,false)] (En 43 k4 (B6 P N2)) k1 (B7 P N2):=fun _ _ _ _ _ _ _  => by kernel_rfl
def o8:=O 464
def B8 (P:PT) (N2:Y k1):Y k1:=fun x1 x5 x6 x7 x8 H=>
  lenK x5 (fun n1=>pif (decide ((x8:Int)<(n1:Int))) (B7 P N2 x1 x5 x6 x7 x8 H) (B1 P x5 x6 x7 H))
theorem q8 P N2:Q o8 (cnd 16 (E k1 (B7 P N2)) (E k0 (B1 P))) k1 (B8 P N2):=fun _ _ _ _ _ _ _=>by kernel_rfl
def L2 (P:PT):Y k1:=fun x1 x5 x6 x7 x8 H=>
  ∃ (I:Y k1) (μ:NTy k1 (AHeap→Nat)),I x1 x5 x6 x7 x8 H∧∀ y1 y5 y6 y7 y8 G,I y1 y5 y6 y7 y8 G→B8 P (fun z1 z5 z6 z7 z8 G'=>I z1 z5 z6 z7 z8 G'∧μ z1 z5 z6 z7 z8 G'<μ y1 y5 y6 y7 y8 G) y1 y5 y6 y7 y8 G
theorem l2 P:LQ k1 (L2 P) (B8 P):=fun ⟨_,_,_,_,_,_⟩ _ ⟨I,μ,h0,hI⟩=>⟨apT _ I,apT _ μ,h0,fun ⟨_,_,_,_,_,_⟩ _ h=>hI _ _ _ _ _ _  h⟩
abbrev k5:Sk:=[(1,.x),(5,.v),(6,.v),(7,J)]
def o9:=O 28
def B9 (P:PT):Y k5:=fun x1 x5 x6 x7 H=>
  L2 P x1 x5 x6 x7 0 H
theorem q9 P:Q o9 (E k1 (L2 P)) k5 (B9 P):=fun _ _ _ _ _ _=>by kernel_rfl
abbrev k6:Sk:=[(1,.x)]
def o10:=O 6
def B10 (P:PT):Y k6:=fun x1 H=>
  ldI .i64 H x1 0 (fun v1=>ld1 H x1 1 (fun v2=>AC Tryz.prog T0 43 [(Value.agg ⟨[(Value.int .i64 v1),v2]⟩)] H (fun v3 H4=>newK H4 [] 2 (fun b6 H7=>B9 P x1 v3 (Value.slice (some ⟨b6,0,none⟩) 0 (0+1)) (-1) H7))))
theorem q10 P:Q o10 (E k5 (B9 P)) k6 (B10 P):=fun _ _ _=>by kernel_rfl
abbrev k7:Sk:=[(0,.g [.i,.v])]
def o11:=O 2
def B11 (P:PT):Y k7:=fun x0a x0b H=>
  newK H [(Value.int .i64 x0a),x0b] 26 (fun b1 H2=>B10 P b1 H2)
theorem q11 P:Q o11 (E k6 (B10 P)) k7 (B11 P):=fun _ _ _ _=>by kernel_rfl
def code:Code:=(.seq (R 0 o11) (.seq (R 1 o10) (.seq (.seq (R 2 o9) (.block 0 (.loop (.seq (.seq (R 3 o8) (.cond (.tmp 16) .skip (.exit 0))) (.seq (.block 1 (.seq (.region 5 ⟨o7⟩ true) (.seq (R 6 o6) (.cond (.tmp 32) (.seq (R 7 o5) (R 8 o4)) .skip)))) (R 4 o3)))))) (.seq (R 9 o1) .ret))))
theorem body:Tryz.f24.body=some code:=by kernel_rfl
theorem main (P:PT):∀ env H,(En 43 k7 (B11 P)) env H→AW Tryz.prog T0 code env H (M (ret P)):=
  (r_seq (b (q11 P)) (r_seq (b (q10 P)) (r_seq (r_seq (b (q9 P)) (r_block (rL (l2 P) (fun N2=>(r_seq (r_seq (b (q8 P N2)) (r_cond rfl r_skip (r_exit (fun _ _ h=>h)))) (r_seq (r_block (r_seq (rD T0_ok mixed [(0,false),(1,false),(2,false),(3,false),(4,false),(5,false),(6,false),(7,false)] (by kernel_rfl) (q7 P N2)) (r_seq (b (q6 P N2)) (r_cond rfl (r_seq (b (q5 P N2)) (b (q4 P N2))) r_skip)))) (b (q3 P N2)))))))) (r_seq (b (q1 P)) r_ret))))
theorem ac (P:PT) (x0a:Int) (x0b:Value) (H:AHeap) (h:B11 P x0a x0b H):AC Tryz.prog T0 24 [(Value.agg ⟨[(Value.int .i64 x0a),x0b]⟩)] H P:=
  r_fn T0_ok (c:=code) (n:=43) Tryz.func24 body (by kernel_rfl) (main P) (En_mk (x0a,x0b,()) (by kernel_rfl) ⟨by kernel_rfl,trivial⟩ h)

end F24
namespace F25
abbrev E:=En 19
abbrev Q:=QB Tryz.prog T0 19
def O (k:Nat):=ob Tryz.f25 (pth k)
def ret (P:PT):EP:=retE T0 19 Tryz.f25 P
abbrev k0:Sk:=[(3,.v)]
def o1:=O 30
def B1 (P:PT):Y k0:=fun x3 H=>
  P x3 H
theorem q1 P:Q o1 (ret P) k0 (B1 P):=fun _ _ _=>by kernel_rfl
abbrev k1:Sk:=[(0,.i .u64),(3,.v),(4,J)]
def o3:=O 467
def B3 (P:PT) (N2:Y k1):Y k1:=fun x0 x3 x4 H=>
  N2 x0 x3 (IntKind.i64.wrap (x4+1)) H
theorem q3 P N2:Q o3 (E k1 N2) k1 (B3 P N2):=fun _ _ _ _ _=>by kernel_rfl
def o4:=O 3730
def B4 (P:PT) (N2:Y k1):Y k1:=fun x0 x3 x4 H=>
  newK H [(Value.int .i64 x4)] 2 (fun b1 H2=>apK T0 2 H2 x3 (Value.slice (some ⟨b1,0,none⟩) 1 (1+1)) (fun v3 H4=>B3 P N2 x0 v3 x4 H4))
theorem q4 P N2:Q o4 (E k1 (B3 P N2)) k1 (B4 P N2):=fun _ _ _ _ _=>by kernel_rfl
def o5:=O 1864
def B5 (P:PT) (N2:Y k1):Y k1:=fun x0 x3 x4 H=>
  AC Tryz.prog T0 42 [(Value.int .u64 x0),(Value.int .i64 x4)] H (fun v1 H2=>asB v1 (fun v3=>pif v3 (B4 P N2 x0 x3 x4 H2) (B3 P N2 x0 x3 x4 H2)))
theorem q5 P N2:Q o5 (cnd 13 (E k1 (B4 P N2)) (E k1 (B3 P N2))) k1 (B5 P N2):=fun _ _ _ _ _=>by kernel_rfl
def o6:=O 464
def B6 (P:PT) (N2:Y k1):Y k1:=fun x0 x3 x4 H=>
  ((0:Int)≤x4)∧(pif ((Int.fdiv x0 (2^(min (Int.toNat x4) 64)):Int) != 0) (B5 P N2 x0 x3 x4 H) (B1 P x3 H))
theorem q6 P N2:Q o6 (cnd 8 (E k1 (B5 P N2)) (E k0 (B1 P))) k1 (B6 P N2):=fun _ _ _ _ _=>by kernel_rfl
def L2 (P:PT):Y k1:=fun x0 x3 x4 H=>
  ∃ (I:Y k1) (μ:NTy k1 (AHeap→Nat)),I x0 x3 x4 H∧∀ y0 y3 y4 G,I y0 y3 y4 G→B6 P (fun z0 z3 z4 G'=>I z0 z3 z4 G'∧μ z0 z3 z4 G'<μ y0 y3 y4 G) y0 y3 y4 G
theorem l2 P:LQ k1 (L2 P) (B6 P):=fun ⟨_,_,_,_⟩ _ ⟨I,μ,h0,hI⟩=>⟨apT _ I,apT _ μ,h0,fun ⟨_,_,_,_⟩ _ h=>hI _ _ _ _  h⟩
abbrev k2:Sk:=[(0,.i .u64),(3,.v)]
def o7:=O 28
def B7 (P:PT):Y k2:=fun x0 x3 H=>
  L2 P x0 x3 0 H
theorem q7 P:Q o7 (E k1 (L2 P)) k2 (B7 P):=fun _ _ _ _=>by kernel_rfl
abbrev k3:Sk:=[(0,.i .u64)]
def o8:=O 6
def B8 (P:PT):Y k3:=fun x0 H=>
  B7 P x0 (Value.slice none 0 0) H
theorem q8 P:Q o8 (E k2 (B7 P)) k3 (B8 P):=fun _ _ _=>by kernel_rfl
def o9:=O 2
def B9 (P:PT):Y k3:=fun x0 H=>
  B8 P x0 H
theorem q9 P:Q o9 (E k3 (B8 P)) k3 (B9 P):=fun _ _ _=>by kernel_rfl
def code:Code:=(.seq (R 0 o9) (.seq (R 1 o8) (.seq (.seq (R 2 o7) (.block 0 (.loop (.seq (.seq (R 3 o6) (.cond (.tmp 8) .skip (.exit 0))) (.seq (.block 1 (.seq (R 5 o5) (.cond (.tmp 13) (R 6 o4) .skip))) (R 4 o3)))))) (.seq (R 7 o1) .ret))))
theorem body:Tryz.f25.body=some code:=by kernel_rfl
theorem main (P:PT):∀ env H,(En 19 k3 (B9 P)) env H→AW Tryz.prog T0 code env H (M (ret P)):=
  (r_seq (b (q9 P)) (r_seq (b (q8 P)) (r_seq (r_seq (b (q7 P)) (r_block (rL (l2 P) (fun N2=>(r_seq (r_seq (b (q6 P N2)) (r_cond rfl r_skip (r_exit (fun _ _ h=>h)))) (r_seq (r_block (r_seq (b (q5 P N2)) (r_cond rfl (b (q4 P N2)) r_skip))) (b (q3 P N2)))))))) (r_seq (b (q1 P)) r_ret))))
theorem ac (P:PT) (x0:Int) (H:AHeap) (h:B9 P x0 H):AC Tryz.prog T0 25 [(Value.int .u64 x0)] H P:=
  r_fn T0_ok (c:=code) (n:=19) Tryz.func25 body (by kernel_rfl) (main P) (En_mk (x0,()) (by kernel_rfl) ⟨by kernel_rfl,trivial⟩ h)

end F25
namespace F26
abbrev E:=En 39
abbrev Q:=QB Tryz.prog T0 39
def O (k:Nat):=ob Tryz.f26 (pth k)
def ret (P:PT):EP:=retE T0 39 Tryz.f26 P
abbrev k0:Sk:=[(2,.x),(4,.v),(5,.x),(6,.v)]
def o1:=O 254
def B1 (P:PT):Y k0:=fun x2 x4 x5 x6 H=>
  ldI .i64 H x5 0 (fun v1=>ld1 H x5 1 (fun v2=>lenK x6 (fun n3=>AC Tryz.prog T0 27 [x4,(Value.int .i64 (n3:Int))] H (fun v4 H5=>asI .i64 v4 (fun v6=>(ldI .i64 H5 x5 0 (fun v7=>ld1 H5 x5 1 (fun v8=>((Value.agg ⟨[(Value.int .i64 v7),v8]⟩)=(Value.agg ⟨[(Value.int .i64 v1),v2]⟩))∧(H5=H5))))∧(idxK x6 v6 1 (fun b9 o10=>ld1 H5 b9 o10 (fun v11=>stK H5 x2 0 [(Value.int .i64 v1),v2] (fun H12=>(ld1 H12 b9 o10 (fun v13=>(v13=v11)∧(H12=H12)))∧(ldI .i64 H12 x2 0 (fun v14=>ld1 H12 x2 1 (fun v15=>P (Value.tuple ⟨[(Value.agg ⟨[(Value.int .i64 v14),v15]⟩),v11]⟩) H12))))))))))))
theorem q1 (P:PT):QT Tryz.prog T0 39 o1 (.op 0 [] (.op 1 [] (.op 2 [] (.op 3 [] (.op 4 [] (.op 5 [0] (.op 6 [] (.op 7 [] (.op 8 [7] (.op 9 [] .done)))))))))) (ret P) k0 (B1 P):=fun _ _ _ _ _ _  => by kernel_rfl
abbrev k1:Sk:=[(2,.x),(4,.v),(5,.x)]
def o2:=O 1012
def B2 (P:PT):Y k1:=fun x2 x4 x5 H=>
  ldI .i64 H x5 0 (fun v1=>ld1 H x5 1 (fun v2=>newK H [(Value.int .i64 1),(Value.int .i64 2),(Value.int .i64 3),(Value.int .i64 (-1)),(Value.int .i64 40)] 2 (fun b3 H4=>AC Tryz.prog T0 56 [x4,(Value.slice (some ⟨b3,0,none⟩) 5 (5+1))] H4 (fun v5 H6=>asI .i64 v5 (fun v7=>(ldI .i64 H6 x5 0 (fun v8=>ld1 H6 x5 1 (fun v9=>((Value.agg ⟨[(Value.int .i64 v8),v9]⟩)=(Value.agg ⟨[(Value.int .i64 v1),v2]⟩))∧(H6=H6))))∧((newK H6 [(Value.int .i64 0),(Value.int .i64 v7)] 2 (fun b10 H11=>stK H11 x2 0 [(Value.int .i64 v1),v2] (fun H12=>ldI .i64 H12 x2 0 (fun v13=>ld1 H12 x2 1 (fun v14=>P (Value.tuple ⟨[(Value.agg ⟨[(Value.int .i64 v13),v14]⟩),(Value.slice (some ⟨b10,0,none⟩) 2 (2+1))]⟩) H12)))))∧(stK H6 x2 0 [(Value.int .i64 v1),v2] (fun H15=>newK H15 [(Value.int .i64 0),(Value.int .i64 v7)] 2 (fun b16 H17=>ldI .i64 H17 x2 0 (fun v18=>ld1 H17 x2 1 (fun v19=>P (Value.tuple ⟨[(Value.agg ⟨[(Value.int .i64 v18),v19]⟩),(Value.slice (some ⟨b16,0,none⟩) 2 (2+1))]⟩) H17)))))))))))
theorem q2 (P:PT):QT Tryz.prog T0 39 o2 (.op 0 [] (.op 1 [] (.op 2 [] (.op 3 [0] (.alt (.op 4 [] (.op 5 [] (.op 6 [] .done))) (.op 5 [] (.op 4 [] (.op 6 [] .done)))))))) (ret P) k1 (B2 P):=fun _ _ _ _ _  => by kernel_rfl
def o3:=O 252
def B3 (P:PT):Y k0:=fun x2 x4 x5 x6 H=>
  lenK x6 (fun n1=>pif (((n1:Int):Int)==0) (B2 P x2 x4 x5 H) (AC Tryz.prog T0 27 [x4,(Value.int .i64 16)] H (fun v2 H3=>asI .i64 v2 (fun v4=>pif ((v4:Int)==0) (B2 P x2 x4 x5 H3) (B1 P x2 x4 x5 x6 H3)))))
theorem q3 P:Q o3 (cnd 25 (E k1 (B2 P)) (E k0 (B1 P))) k0 (B3 P):=fun _ _ _ _ _ _=>by kernel_rfl
def o4:=O 62
def B4 (P:PT):Y k1:=fun x2 x4 x5 H=>
  ldI .i64 H x5 0 (fun v1=>ld1 H x5 1 (fun v2=>AC Tryz.prog T0 43 [(Value.agg ⟨[(Value.int .i64 v1),v2]⟩)] H (fun v3 H4=>B3 P x2 x4 x5 v3 H4)))
theorem q4 P:Q o4 (E k0 (B3 P)) k1 (B4 P):=fun _ _ _ _ _=>by kernel_rfl
abbrev k2:Sk:=[(2,.x),(5,.x)]
def o5:=O 244
def B5 (P:PT):Y k2:=fun x2 x5 H=>
  ldI .i64 H x5 0 (fun v1=>ld1 H x5 1 (fun v2=>newK H [(Value.int .i64 0)] 2 (fun b3 H4=>stK H4 x2 0 [(Value.int .i64 v1),v2] (fun H5=>ldI .i64 H5 x2 0 (fun v6=>ld1 H5 x2 1 (fun v7=>P (Value.tuple ⟨[(Value.agg ⟨[(Value.int .i64 v6),v7]⟩),(Value.slice (some ⟨b3,0,none⟩) 1 (1+1))]⟩) H5))))))
theorem q5 P:Q o5 (ret P) k2 (B5 P):=fun _ _ _ _=>by kernel_rfl
def o6:=O 60
def B6 (P:PT):Y k1:=fun x2 x4 x5 H=>
  ldI .i64 H x5 0 (fun v1=>ld1 H x5 1 (fun v2=>AC Tryz.prog T0 23 [(Value.agg ⟨[(Value.int .i64 v1),v2]⟩)] H (fun v3 H4=>asB v3 (fun v5=>pif (!v5) (B5 P x2 x5 H4) (B4 P x2 x4 x5 H4)))))
theorem q6 P:Q o6 (cnd 13 (E k2 (B5 P)) (E k1 (B4 P))) k1 (B6 P):=fun _ _ _ _ _=>by kernel_rfl
abbrev k3:Sk:=[(2,.x),(4,.v)]
def o7:=O 14
def B7 (P:PT):Y k3:=fun x2 x4 H=>
  AC Tryz.prog T0 19 [x4] H (fun v1 H2=>agg2 v1 (fun v3 v4=>asI .i64 v3 (fun v5=>newK H2 [(Value.int .i64 0),(Value.slice none 0 0)] 26 (fun b7 H8=>stK H8 b7 0 [(Value.int .i64 v5),v4] (fun H9=>B6 P x2 x4 b7 H9)))))
theorem q7 P:Q o7 (E k1 (B6 P)) k3 (B7 P):=fun _ _ _ _=>by kernel_rfl
abbrev k4:Sk:=[(0,.v),(2,.x)]
def o8:=O 6
def B8 (P:PT):Y k4:=fun x0 x2 H=>
  AC Tryz.prog T0 20 [x0] H (fun v1 H2=>B7 P x2 v1 H2)
theorem q8 P:Q o8 (E k3 (B7 P)) k4 (B8 P):=fun _ _ _ _=>by kernel_rfl
abbrev k5:Sk:=[(0,.v)]
def o9:=O 2
def B9 (P:PT):Y k5:=fun x0 H=>
  newK H [(Value.int .i64 0),(Value.slice none 0 0)] 26 (fun b1 H2=>B8 P x0 b1 H2)
theorem q9 P:Q o9 (E k4 (B8 P)) k5 (B9 P):=fun _ _ _=>by kernel_rfl
def code:Code:=(.seq (R 0 o9) (.seq (R 1 o8) (.seq (R 2 o7) (.seq (.seq (R 3 o6) (.cond (.tmp 13) (.seq (R 4 o5) .ret) .skip)) (.seq (R 5 o4) (.seq (.seq (R 6 o3) (.cond (.tmp 25) (.seq (.region 7 ⟨o2⟩ true) .ret) .skip)) (.seq (.region 8 ⟨o1⟩ true) .ret)))))))
theorem body:Tryz.f26.body=some code:=by kernel_rfl
theorem main (P:PT):∀ env H,(En 39 k5 (B9 P)) env H→AW Tryz.prog T0 code env H (M (ret P)):=
  (r_seq (b (q9 P)) (r_seq (b (q8 P)) (r_seq (b (q7 P)) (r_seq (r_seq (b (q6 P)) (r_cond rfl (r_seq (b (q5 P)) r_ret) r_skip)) (r_seq (b (q4 P)) (r_seq (r_seq (b (q3 P)) (r_cond rfl (r_seq (rT T0_ok mixed (.op 0 [] (.op 1 [] (.op 2 [] (.op 3 [0] (.alt (.op 4 [] (.op 5 [] (.op 6 [] .done))) (.op 5 [] (.op 4 [] (.op 6 [] .done)))))))) (by kernel_rfl) (q2 P)) r_ret) r_skip)) (r_seq (rT T0_ok mixed (.op 0 [] (.op 1 [] (.op 2 [] (.op 3 [] (.op 4 [] (.op 5 [0] (.op 6 [] (.op 7 [] (.op 8 [7] (.op 9 [] .done)))))))))) (by kernel_rfl) (q1 P)) r_ret)))))))
theorem ac (P:PT) (x0:Value) (H:AHeap) (h:B9 P x0 H):AC Tryz.prog T0 26 [x0] H P:=
  r_fn T0_ok (c:=code) (n:=39) Tryz.func26 body (by kernel_rfl) (main P) (En_mk (x0,()) (by kernel_rfl) ⟨by kernel_rfl,trivial⟩ h)

end F26
namespace F27
abbrev E:=En 58
abbrev Q:=QB Tryz.prog T0 58
def O (k:Nat):=ob Tryz.f27 (pth k)
def ret (P:PT):EP:=retE T0 58 Tryz.f27 P
abbrev k0:Sk:=[(1,J),(5,J)]
def o1:=O 126
def B1 (P:PT):Y k0:=fun x1 x5 H=>
  nzK x1 (P (Value.int .i64 (Int.tmod x5 x1)) H)
theorem q1 P:Q o1 (ret P) k0 (B1 P):=fun _ _ _ _=>by kernel_rfl
abbrev k1:Sk:=[(0,.v),(1,J),(5,J)]
def o2:=O 501
def B2 (P:PT):Y k1:=fun x0 x1 x5 H=>
  nilK x0 (fun v1=>asP v1 (fun b2 o3=>ldI .i64 H b2 (o3+1) (fun v4=>nilK x0 (fun v5=>asP v5 (fun b6 o7=>stK H b6 (o7+1) [(Value.int .i64 (IntKind.i64.wrap (v4+1)))] (fun H8=>B1 P x1 x5 H8))))))
theorem q2 P:Q o2 (E k0 (B1 P)) k1 (B2 P):=fun _ _ _ _ _=>by kernel_rfl
def o3:=O 500
def B3 (P:PT):Y k1:=fun x0 x1 x5 H=>
  nilK x0 (fun v1=>asP v1 (fun b2 o3=>ld1 H b2 o3 (fun v4=>nilK x0 (fun v5=>asP v5 (fun b6 o7=>ldI .i64 H b6 (o7+1) (fun v8=>idxK v4 v8 1 (fun b9 o10=>ldI .u8 H b9 o10 (fun v11=>B2 P x0 x1 (IntKind.i64.wrap (x5+(IntKind.i64.wrap v11))) H))))))))
theorem q3 (P:PT):QD Tryz.prog T0 58 o3 [(0,false),(1,false),(2,false),(3,false),(4,false),(5,false),(6,false),(7,false),(8,false),(9,false),(10,false),(11,false),(12,false),(13,false)] (En 58 k1 (B2 P)) k1 (B3 P):=fun _ _ _ _ _  => by kernel_rfl
def o4:=O 124
def B4 (P:PT):Y k1:=fun x0 x1 x5 H=>
  nilK x0 (fun v1=>asP v1 (fun b2 o3=>ldI .i64 H b2 (o3+1) (fun v4=>nilK x0 (fun v5=>asP v5 (fun b6 o7=>ld1 H b6 o7 (fun v8=>lenK v8 (fun n9=>pif (decide ((v4:Int)<(n9:Int))) (B3 P x0 x1 x5 H) (B1 P x1 x5 H))))))))
theorem q4 (P:PT):QD Tryz.prog T0 58 o4 [(0,false),(1,false),(2,false),(3,false),(4,false),(5,false),(6,false),(7,false),(8,false),(9,false)] (cnd 33 (En 58 k1 (B3 P)) (En 58 k0 (B1 P))) k1 (B4 P):=fun _ _ _ _ _  => by kernel_rfl
abbrev k2:Sk:=[(0,.v),(1,J)]
def o5:=O 30
def B5 (P:PT):Y k2:=fun x0 x1 H=>
  nilK x0 (fun v1=>asP v1 (fun b2 o3=>ldI .u64 H b2 (o3+2) (fun v4=>((0:Int)≤33)∧(B4 P x0 x1 (IntKind.i64.wrap (IntKind.u64.wrap (BitVec.ofInt 64 (Int.fdiv v4 (2^(min (Int.toNat 33) 64)))&&&BitVec.ofInt 64 16777215).toNat)) H))))
theorem q5 P:Q o5 (E k1 (B4 P)) k2 (B5 P):=fun _ _ _ _=>by kernel_rfl
def o6:=O 14
def B6 (P:PT):Y k2:=fun x0 x1 H=>
  nilK x0 (fun v1=>asP v1 (fun b2 o3=>ldI .u64 H b2 (o3+2) (fun v4=>nilK x0 (fun v5=>asP v5 (fun b6 o7=>stK H b6 (o7+2) [(Value.int .u64 (IntKind.u64.wrap ((IntKind.u64.wrap (v4*6364136223846793005))+1442695040888963407)))] (fun H8=>B5 P x0 x1 H8))))))
theorem q6 P:Q o6 (E k2 (B5 P)) k2 (B6 P):=fun _ _ _ _=>by kernel_rfl
abbrev k3:Sk:=[]
def o7:=O 52
def B7 (P:PT):Y k3:=fun H=>
  P (Value.int .i64 0) H
theorem q7 P:Q o7 (ret P) k3 (B7 P):=fun _ _=>by kernel_rfl
def o8:=O 12
def B8 (P:PT):Y k2:=fun x0 x1 H=>
  pif (decide ((x1:Int)<1)) (B7 P H) (B6 P x0 x1 H)
theorem q8 P:Q o8 (cnd 7 (E k3 (B7 P)) (E k2 (B6 P))) k2 (B8 P):=fun _ _ _ _=>by kernel_rfl
def o9:=O 2
def B9 (P:PT):Y k2:=fun x0 x1 H=>
  B8 P x0 x1 H
theorem q9 P:Q o9 (E k2 (B8 P)) k2 (B9 P):=fun _ _ _ _=>by kernel_rfl
def code:Code:=(.seq (R 0 o9) (.seq (.seq (R 1 o8) (.cond (.tmp 7) (.seq (R 2 o7) .ret) .skip)) (.seq (R 3 o6) (.seq (R 4 o5) (.seq (.seq (.region 5 ⟨o4⟩ true) (.cond (.tmp 33) (.seq (.region 6 ⟨o3⟩ true) (R 7 o2)) .skip)) (.seq (R 8 o1) .ret))))))
theorem body:Tryz.f27.body=some code:=by kernel_rfl
theorem main (P:PT):∀ env H,(En 58 k2 (B9 P)) env H→AW Tryz.prog T0 code env H (M (ret P)):=
  (r_seq (b (q9 P)) (r_seq (r_seq (b (q8 P)) (r_cond rfl (r_seq (b (q7 P)) r_ret) r_skip)) (r_seq (b (q6 P)) (r_seq (b (q5 P)) (r_seq (r_seq (rD T0_ok mixed [(0,false),(1,false),(2,false),(3,false),(4,false),(5,false),(6,false),(7,false),(8,false),(9,false)] (by kernel_rfl) (q4 P)) (r_cond rfl (r_seq (rD T0_ok mixed [(0,false),(1,false),(2,false),(3,false),(4,false),(5,false),(6,false),(7,false),(8,false),(9,false),(10,false),(11,false),(12,false),(13,false)] (by kernel_rfl) (q3 P)) (b (q2 P))) r_skip)) (r_seq (b (q1 P)) r_ret))))))
theorem ac (P:PT) (x0:Value) (x1:Int) (H:AHeap) (h:B9 P x0 x1 H):AC Tryz.prog T0 27 [x0,(Value.int .i64 x1)] H P:=
  r_fn T0_ok (c:=code) (n:=58) Tryz.func27 body (by kernel_rfl) (main P) (En_mk (x0,x1,()) (by kernel_rfl) ⟨by kernel_rfl,by kernel_rfl,trivial⟩ h)

end F27
namespace F28
abbrev E:=En 57
abbrev Q:=QB Tryz.prog T0 57
def O (k:Nat):=ob Tryz.f28 (pth k)
def ret (P:PT):EP:=retE T0 57 Tryz.f28 P
abbrev k0:Sk:=[(2,.x),(5,.i .u64)]
def o1:=O 62
def B1 (P:PT):Y k0:=fun x2 x5 H=>
  ldI .i64 H x2 0 (fun v1=>((0:Int)≤v1)∧(P (Value.bool ((x5:Int)==(IntKind.u64.wrap ((IntKind.u64.wrap (1*2^(min (Int.toNat v1) 64)))-1)))) H))
theorem q1 P:Q o1 (ret P) k0 (B1 P):=fun _ _ _ _=>by kernel_rfl
abbrev k1:Sk:=[(2,.x),(5,.i .u64),(27,.v),(28,J),(29,J)]
def o3:=O 1959
def B3 (P:PT) (N2:Y k1):Y k1:=fun x2 x5 x27 x28 x29 H=>
  N2 x2 x5 x27 x28 (IntKind.i64.wrap (x29+1)) H
theorem q3 P N2:Q o3 (E k1 N2) k1 (B3 P N2):=fun _ _ _ _ _ _ _=>by kernel_rfl
abbrev k2:Sk:=[(2,.x),(5,.i .u64),(7,J),(27,.v),(28,J),(29,J)]
def o4:=O 7833
def B4 (P:PT) (N2:Y k1):Y k2:=fun x2 x5 x7 x27 x28 x29 H=>
  ld1 H x2 1 (fun v1=>idxK v1 x7 2 (fun b2 o3=>ldI .i64 H b2 o3 (fun v4=>((0:Int)≤v4)∧(ld1 H x2 1 (fun v5=>idxK v5 x7 2 (fun b6 o7=>ldI .i64 H b6 (o7+1) (fun v8=>((0:Int)≤v8)∧(B3 P N2 x2 (IntKind.u64.wrap (BitVec.ofInt 64 x5|||BitVec.ofInt 64 (IntKind.u64.wrap (BitVec.ofInt 64 (IntKind.u64.wrap (1*2^(min (Int.toNat v4) 64)))|||BitVec.ofInt 64 (IntKind.u64.wrap (1*2^(min (Int.toNat v8) 64)))).toNat)).toNat) x27 x28 x29 H))))))))
theorem q4 (P:PT) (N2:Y k1):QD Tryz.prog T0 57 o4 [(0,false),(1,false),(2,false),(3,false),(4,false),(5,false),(6,false),(7,false),(8,false),(9,false),(10,false),(11,false),(12,false),(13,false),(14,false),(15,false),(16,false),(17,false)] (En 57 k1 (B3 P N2)) k2 (B4 P N2):=fun _ _ _ _ _ _ _ _  => by kernel_rfl
def o5:=O 7832
def B5 (P:PT) (N2:Y k1):Y k1:=fun x2 x5 x27 x28 x29 H=>
  idxK x27 x29 1 (fun b1 o2=>ldI .i64 H b1 o2 (fun v3=>B4 P N2 x2 x5 v3 x27 x28 x29 H))
theorem q5 P N2:Q o5 (E k2 (B4 P N2)) k1 (B5 P N2):=fun _ _ _ _ _ _ _=>by kernel_rfl
def o6:=O 488
def B6 (P:PT) (N2:Y k1):Y k1:=fun x2 x5 x27 x28 x29 H=>
  pif (decide ((x29:Int)<x28)) (B5 P N2 x2 x5 x27 x28 x29 H) (B1 P x2 x5 H)
theorem q6 P N2:Q o6 (cnd 30 (E k1 (B5 P N2)) (E k0 (B1 P))) k1 (B6 P N2):=fun _ _ _ _ _ _ _=>by kernel_rfl
def L2 (P:PT):Y k1:=fun x2 x5 x27 x28 x29 H=>
  ∃ (I:Y k1) (μ:NTy k1 (AHeap→Nat)),I x2 x5 x27 x28 x29 H∧∀ y2 y5 y27 y28 y29 G,I y2 y5 y27 y28 y29 G→B6 P (fun z2 z5 z27 z28 z29 G'=>I z2 z5 z27 z28 z29 G'∧μ z2 z5 z27 z28 z29 G'<μ y2 y5 y27 y28 y29 G) y2 y5 y27 y28 y29 G
theorem l2 P:LQ k1 (L2 P) (B6 P):=fun ⟨_,_,_,_,_,_⟩ _ ⟨I,μ,h0,hI⟩=>⟨apT _ I,apT _ μ,h0,fun ⟨_,_,_,_,_,_⟩ _ h=>hI _ _ _ _ _ _  h⟩
abbrev k3:Sk:=[(1,.v),(2,.x),(5,.i .u64)]
def o7:=O 60
def B7 (P:PT):Y k3:=fun x1 x2 x5 H=>
  lenK x1 (fun n1=>L2 P x2 x5 x1 (n1:Int) 0 H)
theorem q7 P:Q o7 (E k1 (L2 P)) k3 (B7 P):=fun _ _ _ _ _=>by kernel_rfl
abbrev k4:Sk:=[(1,.v),(2,.x)]
def o8:=O 14
def B8 (P:PT):Y k4:=fun x1 x2 H=>
  B7 P x1 x2 0 H
theorem q8 P:Q o8 (E k3 (B7 P)) k4 (B8 P):=fun _ _ _ _=>by kernel_rfl
abbrev k5:Sk:=[]
def o9:=O 52
def B9 (P:PT):Y k5:=fun H=>
  P (Value.bool false) H
theorem q9 P:Q o9 (ret P) k5 (B9 P):=fun _ _=>by kernel_rfl
def o10:=O 12
def B10 (P:PT):Y k4:=fun x1 x2 H=>
  ldI .i64 H x2 0 (fun v1=>ld1 H x2 1 (fun v2=>AC Tryz.prog T0 50 [(Value.agg ⟨[(Value.int .i64 v1),v2]⟩)] H (fun v3 H4=>asB v3 (fun v5=>pif (!v5) (B9 P H4) (ld1 H4 x2 1 (fun v6=>AC Tryz.prog T0 58 [v6] H4 (fun v7 H8=>asI .i64 v7 (fun v9=>AC Tryz.prog T0 57 [x1,(Value.int .i64 v9)] H8 (fun v10 H11=>asB v10 (fun v12=>pif (!v12) (B9 P H11) (ldI .i64 H11 x2 0 (fun v13=>AC Tryz.prog T0 59 [x1] H11 (fun v14 H15=>asI .i64 v14 (fun v16=>(AHeap.le H11 H15)∧(pif ((v16:Int) != (IntKind.i64.wrap (Int.tdiv v13 2))) (B9 P H15) (B8 P x1 x2 H15))))))))))))))))
theorem q10 (P:PT):QD Tryz.prog T0 57 o10 [(0,false),(1,false),(2,false),(3,false),(4,false),(5,false),(6,false),(7,false),(8,false),(9,false),(10,false),(11,false),(12,false),(14,false),(15,false),(16,false),(13,true),(17,false),(18,false)] (cnd 26 (En 57 k5 (B9 P)) (En 57 k4 (B8 P))) k4 (B10 P):=fun _ _ _ _  => by kernel_rfl
abbrev k6:Sk:=[(0,.g [.i,.v]),(1,.v)]
def o11:=O 2
def B11 (P:PT):Y k6:=fun x0a x0b x1 H=>
  newK H [(Value.int .i64 x0a),x0b] 26 (fun b1 H2=>B10 P x1 b1 H2)
theorem q11 P:Q o11 (E k4 (B10 P)) k6 (B11 P):=fun _ _ _ _ _=>by kernel_rfl
def code:Code:=(.seq (R 0 o11) (.seq (.seq (.region 1 ⟨o10⟩ true) (.cond (.tmp 26) (.seq (R 2 o9) .ret) .skip)) (.seq (R 3 o8) (.seq (.seq (R 4 o7) (.block 0 (.loop (.seq (R 5 o6) (.seq (.cond (.tmp 30) .skip (.exit 0)) (.seq (.block 1 (.seq (R 6 o5) (.region 7 ⟨o4⟩ true))) (R 8 o3))))))) (.seq (R 9 o1) .ret)))))
theorem body:Tryz.f28.body=some code:=by kernel_rfl
theorem main (P:PT):∀ env H,(En 57 k6 (B11 P)) env H→AW Tryz.prog T0 code env H (M (ret P)):=
  (r_seq (b (q11 P)) (r_seq (r_seq (rD T0_ok mixed [(0,false),(1,false),(2,false),(3,false),(4,false),(5,false),(6,false),(7,false),(8,false),(9,false),(10,false),(11,false),(12,false),(14,false),(15,false),(16,false),(13,true),(17,false),(18,false)] (by kernel_rfl) (q10 P)) (r_cond rfl (r_seq (b (q9 P)) r_ret) r_skip)) (r_seq (b (q8 P)) (r_seq (r_seq (b (q7 P)) (r_block (rL (l2 P) (fun N2=>(r_seq (b (q6 P N2)) (r_seq (r_cond rfl r_skip (r_exit (fun _ _ h=>h))) (r_seq (r_block (r_seq (b (q5 P N2)) (rD T0_ok mixed [(0,false),(1,false),(2,false),(3,false),(4,false),(5,false),(6,false),(7,false),(8,false),(9,false),(10,false),(11,false),(12,false),(13,false),(14,false),(15,false),(16,false),(17,false)] (by kernel_rfl) (q4 P N2)))) (b (q3 P N2))))))))) (r_seq (b (q1 P)) r_ret)))))
theorem ac (P:PT) (x0a:Int) (x0b x1:Value) (H:AHeap) (h:B11 P x0a x0b x1 H):AC Tryz.prog T0 28 [(Value.agg ⟨[(Value.int .i64 x0a),x0b]⟩),x1] H P:=
  r_fn T0_ok (c:=code) (n:=57) Tryz.func28 body (by kernel_rfl) (main P) (En_mk (x0a,x0b,x1,()) (by kernel_rfl) ⟨by kernel_rfl,by kernel_rfl,trivial⟩ h)

end F28
namespace F29
abbrev E:=En 18
abbrev Q:=QB Tryz.prog T0 18
def O (k:Nat):=ob Tryz.f29 (pth k)
def ret (P:PT):EP:=retE T0 18 Tryz.f29 P
abbrev k0:Sk:=[(3,.i .u64)]
def o1:=O 30
def B1 (P:PT):Y k0:=fun x3 H=>
  P (Value.int .u64 x3) H
theorem q1 P:Q o1 (ret P) k0 (B1 P):=fun _ _ _=>by kernel_rfl
abbrev k1:Sk:=[(3,.i .u64),(6,.v),(7,J),(8,J)]
def o3:=O 935
def B3 (P:PT) (N2:Y k1):Y k1:=fun x3 x6 x7 x8 H=>
  N2 x3 x6 x7 (IntKind.i64.wrap (x8+1)) H
theorem q3 P N2:Q o3 (E k1 N2) k1 (B3 P N2):=fun _ _ _ _ _ _=>by kernel_rfl
abbrev k2:Sk:=[(3,.i .u64),(5,J),(6,.v),(7,J),(8,J)]
def o4:=O 3737
def B4 (P:PT) (N2:Y k1):Y k2:=fun x3 x5 x6 x7 x8 H=>
  ((0:Int)≤x5)∧(B3 P N2 (IntKind.u64.wrap (BitVec.ofInt 64 x3|||BitVec.ofInt 64 (IntKind.u64.wrap (1*2^(min (Int.toNat x5) 64)))).toNat) x6 x7 x8 H)
theorem q4 P N2:Q o4 (E k1 (B3 P N2)) k2 (B4 P N2):=fun _ _ _ _ _ _ _=>by kernel_rfl
def o5:=O 3736
def B5 (P:PT) (N2:Y k1):Y k1:=fun x3 x6 x7 x8 H=>
  idxK x6 x8 1 (fun b1 o2=>ldI .i64 H b1 o2 (fun v3=>B4 P N2 x3 v3 x6 x7 x8 H))
theorem q5 P N2:Q o5 (E k2 (B4 P N2)) k1 (B5 P N2):=fun _ _ _ _ _ _=>by kernel_rfl
def o6:=O 232
def B6 (P:PT) (N2:Y k1):Y k1:=fun x3 x6 x7 x8 H=>
  pif (decide ((x8:Int)<x7)) (B5 P N2 x3 x6 x7 x8 H) (B1 P x3 H)
theorem q6 P N2:Q o6 (cnd 9 (E k1 (B5 P N2)) (E k0 (B1 P))) k1 (B6 P N2):=fun _ _ _ _ _ _=>by kernel_rfl
def L2 (P:PT):Y k1:=fun x3 x6 x7 x8 H=>
  ∃ (I:Y k1) (μ:NTy k1 (AHeap→Nat)),I x3 x6 x7 x8 H∧∀ y3 y6 y7 y8 G,I y3 y6 y7 y8 G→B6 P (fun z3 z6 z7 z8 G'=>I z3 z6 z7 z8 G'∧μ z3 z6 z7 z8 G'<μ y3 y6 y7 y8 G) y3 y6 y7 y8 G
theorem l2 P:LQ k1 (L2 P) (B6 P):=fun ⟨_,_,_,_,_⟩ _ ⟨I,μ,h0,hI⟩=>⟨apT _ I,apT _ μ,h0,fun ⟨_,_,_,_,_⟩ _ h=>hI _ _ _ _ _  h⟩
abbrev k3:Sk:=[(0,.v),(3,.i .u64)]
def o7:=O 28
def B7 (P:PT):Y k3:=fun x0 x3 H=>
  lenK x0 (fun n1=>L2 P x3 x0 (n1:Int) 0 H)
theorem q7 P:Q o7 (E k1 (L2 P)) k3 (B7 P):=fun _ _ _ _=>by kernel_rfl
abbrev k4:Sk:=[(0,.v)]
def o8:=O 6
def B8 (P:PT):Y k4:=fun x0 H=>
  B7 P x0 0 H
theorem q8 P:Q o8 (E k3 (B7 P)) k4 (B8 P):=fun _ _ _=>by kernel_rfl
def o9:=O 2
def B9 (P:PT):Y k4:=fun x0 H=>
  B8 P x0 H
theorem q9 P:Q o9 (E k4 (B8 P)) k4 (B9 P):=fun _ _ _=>by kernel_rfl
def code:Code:=(.seq (R 0 o9) (.seq (R 1 o8) (.seq (.seq (R 2 o7) (.block 0 (.loop (.seq (R 3 o6) (.seq (.cond (.tmp 9) .skip (.exit 0)) (.seq (.block 1 (.seq (R 4 o5) (R 5 o4))) (R 6 o3))))))) (.seq (R 7 o1) .ret))))
theorem body:Tryz.f29.body=some code:=by kernel_rfl
theorem main (P:PT):∀ env H,(En 18 k4 (B9 P)) env H→AW Tryz.prog T0 code env H (M (ret P)):=
  (r_seq (b (q9 P)) (r_seq (b (q8 P)) (r_seq (r_seq (b (q7 P)) (r_block (rL (l2 P) (fun N2=>(r_seq (b (q6 P N2)) (r_seq (r_cond rfl r_skip (r_exit (fun _ _ h=>h))) (r_seq (r_block (r_seq (b (q5 P N2)) (b (q4 P N2)))) (b (q3 P N2))))))))) (r_seq (b (q1 P)) r_ret))))
theorem ac (P:PT) (x0:Value) (H:AHeap) (h:B9 P x0 H):AC Tryz.prog T0 29 [x0] H P:=
  r_fn T0_ok (c:=code) (n:=18) Tryz.func29 body (by kernel_rfl) (main P) (En_mk (x0,()) (by kernel_rfl) ⟨by kernel_rfl,trivial⟩ h)

end F29
namespace F30
abbrev E:=En 23
abbrev Q:=QB Tryz.prog T0 23
def O (k:Nat):=ob Tryz.f30 (pth k)
def ret (P:PT):EP:=retE T0 23 Tryz.f30 P
abbrev k0:Sk:=[(5,J)]
def o1:=O 30
def B1 (P:PT):Y k0:=fun x5 H=>
  P (Value.int .i64 x5) H
theorem q1 P:Q o1 (ret P) k0 (B1 P):=fun _ _ _=>by kernel_rfl
abbrev k1:Sk:=[(5,J),(10,.v),(11,J),(12,J)]
def o3:=O 935
def B3 (P:PT) (N2:Y k1):Y k1:=fun x5 x10 x11 x12 H=>
  N2 x5 x10 x11 (IntKind.i64.wrap (x12+1)) H
theorem q3 P N2:Q o3 (E k1 N2) k1 (B3 P N2):=fun _ _ _ _ _ _=>by kernel_rfl
abbrev k2:Sk:=[(5,J),(7,.i .u64),(10,.v),(11,J),(12,J)]
def o4:=O 3737
def B4 (P:PT) (N2:Y k1):Y k2:=fun x5 x7 x10 x11 x12 H=>
  AC Tryz.prog T0 60 [(Value.int .u64 x7)] H (fun v1 H2=>asI .i64 v1 (fun v3=>B3 P N2 (IntKind.i64.wrap (x5+(Int.tmod v3 2))) x10 x11 x12 H2))
theorem q4 P N2:Q o4 (E k1 (B3 P N2)) k2 (B4 P N2):=fun _ _ _ _ _ _ _=>by kernel_rfl
def o5:=O 3736
def B5 (P:PT) (N2:Y k1):Y k1:=fun x5 x10 x11 x12 H=>
  idxK x10 x12 1 (fun b1 o2=>ldI .u64 H b1 o2 (fun v3=>B4 P N2 x5 v3 x10 x11 x12 H))
theorem q5 P N2:Q o5 (E k2 (B4 P N2)) k1 (B5 P N2):=fun _ _ _ _ _ _=>by kernel_rfl
def o6:=O 232
def B6 (P:PT) (N2:Y k1):Y k1:=fun x5 x10 x11 x12 H=>
  pif (decide ((x12:Int)<x11)) (B5 P N2 x5 x10 x11 x12 H) (B1 P x5 H)
theorem q6 P N2:Q o6 (cnd 13 (E k1 (B5 P N2)) (E k0 (B1 P))) k1 (B6 P N2):=fun _ _ _ _ _ _=>by kernel_rfl
def L2 (P:PT):Y k1:=fun x5 x10 x11 x12 H=>
  ∃ (I:Y k1) (μ:NTy k1 (AHeap→Nat)),I x5 x10 x11 x12 H∧∀ y5 y10 y11 y12 G,I y5 y10 y11 y12 G→B6 P (fun z5 z10 z11 z12 G'=>I z5 z10 z11 z12 G'∧μ z5 z10 z11 z12 G'<μ y5 y10 y11 y12 G) y5 y10 y11 y12 G
theorem l2 P:LQ k1 (L2 P) (B6 P):=fun ⟨_,_,_,_,_⟩ _ ⟨I,μ,h0,hI⟩=>⟨apT _ I,apT _ μ,h0,fun ⟨_,_,_,_,_⟩ _ h=>hI _ _ _ _ _  h⟩
abbrev k3:Sk:=[(1,.i .u64),(2,.x),(5,J)]
def o7:=O 28
def B7 (P:PT):Y k3:=fun x1 x2 x5 H=>
  ldI .i64 H x2 0 (fun v1=>ld1 H x2 1 (fun v2=>AC Tryz.prog T0 31 [(Value.agg ⟨[(Value.int .i64 v1),v2]⟩),(Value.int .u64 x1)] H (fun v3 H4=>lenK v3 (fun n6=>L2 P x5 v3 (n6:Int) 0 H4))))
theorem q7 P:Q o7 (E k1 (L2 P)) k3 (B7 P):=fun _ _ _ _ _=>by kernel_rfl
abbrev k4:Sk:=[(1,.i .u64),(2,.x)]
def o8:=O 6
def B8 (P:PT):Y k4:=fun x1 x2 H=>
  B7 P x1 x2 0 H
theorem q8 P:Q o8 (E k3 (B7 P)) k4 (B8 P):=fun _ _ _ _=>by kernel_rfl
abbrev k5:Sk:=[(0,.g [.i,.v]),(1,.i .u64)]
def o9:=O 2
def B9 (P:PT):Y k5:=fun x0a x0b x1 H=>
  newK H [(Value.int .i64 x0a),x0b] 26 (fun b1 H2=>B8 P x1 b1 H2)
theorem q9 P:Q o9 (E k4 (B8 P)) k5 (B9 P):=fun _ _ _ _ _=>by kernel_rfl
def code:Code:=(.seq (R 0 o9) (.seq (R 1 o8) (.seq (.seq (R 2 o7) (.block 0 (.loop (.seq (R 3 o6) (.seq (.cond (.tmp 13) .skip (.exit 0)) (.seq (.block 1 (.seq (R 4 o5) (R 5 o4))) (R 6 o3))))))) (.seq (R 7 o1) .ret))))
theorem body:Tryz.f30.body=some code:=by kernel_rfl
theorem main (P:PT):∀ env H,(En 23 k5 (B9 P)) env H→AW Tryz.prog T0 code env H (M (ret P)):=
  (r_seq (b (q9 P)) (r_seq (b (q8 P)) (r_seq (r_seq (b (q7 P)) (r_block (rL (l2 P) (fun N2=>(r_seq (b (q6 P N2)) (r_seq (r_cond rfl r_skip (r_exit (fun _ _ h=>h))) (r_seq (r_block (r_seq (b (q5 P N2)) (b (q4 P N2)))) (b (q3 P N2))))))))) (r_seq (b (q1 P)) r_ret))))
theorem ac (P:PT) (x0a:Int) (x0b:Value) (x1:Int) (H:AHeap) (h:B9 P x0a x0b x1 H):AC Tryz.prog T0 30 [(Value.agg ⟨[(Value.int .i64 x0a),x0b]⟩),(Value.int .u64 x1)] H P:=
  r_fn T0_ok (c:=code) (n:=23) Tryz.func30 body (by kernel_rfl) (main P) (En_mk (x0a,x0b,x1,()) (by kernel_rfl) ⟨by kernel_rfl,by kernel_rfl,trivial⟩ h)

end F30
namespace F31
abbrev E:=En 11
abbrev Q:=QB Tryz.prog T0 11
def O (k:Nat):=ob Tryz.f31 (pth k)
def ret (P:PT):EP:=retE T0 11 Tryz.f31 P
abbrev k0:Sk:=[(1,.i .u64),(2,.x)]
def o1:=O 6
def B1 (P:PT):Y k0:=fun x1 x2 H=>
  ldI .i64 H x2 0 (fun v1=>ld1 H x2 1 (fun v2=>ldI .i64 H x2 0 (fun v3=>ld1 H x2 1 (fun v4=>AC Tryz.prog T0 38 [(Value.agg ⟨[(Value.int .i64 v3),v4]⟩)] H (fun v5 H6=>asI .u64 v5 (fun v7=>(AHeap.le H H6)∧(AC Tryz.prog T0 61 [(Value.agg ⟨[(Value.int .i64 v1),v2]⟩),(Value.int .u64 (IntKind.u64.wrap (BitVec.ofInt 64 v7&&&~~~(BitVec.ofInt 64 x1)).toNat))] H6 (fun v8 H9=>P v8 H9))))))))
theorem q1 (P:PT):QD Tryz.prog T0 11 o1 [(0,false),(1,false),(3,false),(2,true),(4,false),(5,false),(6,false)] (ret P) k0 (B1 P):=fun _ _ _ _  => by kernel_rfl
abbrev k1:Sk:=[(0,.g [.i,.v]),(1,.i .u64)]
def o2:=O 2
def B2 (P:PT):Y k1:=fun x0a x0b x1 H=>
  newK H [(Value.int .i64 x0a),x0b] 26 (fun b1 H2=>B1 P x1 b1 H2)
theorem q2 P:Q o2 (E k0 (B1 P)) k1 (B2 P):=fun _ _ _ _ _=>by kernel_rfl
def code:Code:=(.seq (R 0 o2) (.seq (.region 1 ⟨o1⟩ true) .ret))
theorem body:Tryz.f31.body=some code:=by kernel_rfl
theorem main (P:PT):∀ env H,(En 11 k1 (B2 P)) env H→AW Tryz.prog T0 code env H (M (ret P)):=
  (r_seq (b (q2 P)) (r_seq (rD T0_ok mixed [(0,false),(1,false),(3,false),(2,true),(4,false),(5,false),(6,false)] (by kernel_rfl) (q1 P)) r_ret))
theorem ac (P:PT) (x0a:Int) (x0b:Value) (x1:Int) (H:AHeap) (h:B2 P x0a x0b x1 H):AC Tryz.prog T0 31 [(Value.agg ⟨[(Value.int .i64 x0a),x0b]⟩),(Value.int .u64 x1)] H P:=
  r_fn T0_ok (c:=code) (n:=11) Tryz.func31 body (by kernel_rfl) (main P) (En_mk (x0a,x0b,x1,()) (by kernel_rfl) ⟨by kernel_rfl,by kernel_rfl,trivial⟩ h)

end F31
namespace F32
abbrev E:=En 50
abbrev Q:=QB Tryz.prog T0 50
def O (k:Nat):=ob Tryz.f32 (pth k)
def ret (P:PT):EP:=retE T0 50 Tryz.f32 P
abbrev k0:Sk:=[(1,.i .u64),(2,.x),(5,.x),(6,.v)]
abbrev k1:Sk:=[(1,.i .u64),(2,.x),(5,.x),(6,.v),(7,J),(9,J)]
def o2:=O 7743
def B2 (P:PT) (N1:Y k0):Y k1:=fun x1 x2 x5 x6 x7 x9 H=>
  ld1 H x2 1 (fun v1=>idxK v1 x9 2 (fun b2 o3=>ldI .i64 H b2 (o3+1) (fun v4=>stK H x5 0 [(Value.int .i64 x9),(Value.bool ((v4:Int)==x7))] (fun H5=>N1 x1 x2 x5 x6 H5))))
theorem q2 P N1:Q o2 (E k0 N1) k1 (B2 P N1):=fun _ _ _ _ _ _ _ _=>by kernel_rfl
abbrev k2:Sk:=[(1,.i .u64),(2,.x),(5,.x),(6,.v),(7,J),(8,.i .u64)]
def o3:=O 7742
def B3 (P:PT) (N1:Y k0):Y k2:=fun x1 x2 x5 x6 x7 x8 H=>
  AC Tryz.prog T0 25 [(Value.int .u64 x8)] H (fun v1 H2=>idxK v1 0 1 (fun b4 o5=>ldI .i64 H2 b4 o5 (fun v6=>B2 P N1 x1 x2 x5 x6 x7 v6 H2)))
theorem q3 P N1:Q o3 (E k1 (B2 P N1)) k2 (B3 P N1):=fun _ _ _ _ _ _ _ _=>by kernel_rfl
abbrev k3:Sk:=[(6,.v)]
def o4:=O 30964
def B4 (P:PT) (N1:Y k0):Y k3:=fun x6 H=>
  P x6 H
theorem q4 P N1:Q o4 (ret P) k3 (B4 P N1):=fun _ _ _=>by kernel_rfl
def o5:=O 7740
def B5 (P:PT) (N1:Y k0):Y k2:=fun x1 x2 x5 x6 x7 x8 H=>
  pif ((x8:Int)==0) (B4 P N1 x6 H) (B3 P N1 x1 x2 x5 x6 x7 x8 H)
theorem q5 P N1:Q o5 (cnd 34 (E k3 (B4 P N1)) (E k2 (B3 P N1))) k2 (B5 P N1):=fun _ _ _ _ _ _ _ _=>by kernel_rfl
abbrev k4:Sk:=[(1,.i .u64),(2,.x),(5,.x),(6,.v),(7,J)]
def o6:=O 1934
def B6 (P:PT) (N1:Y k0):Y k4:=fun x1 x2 x5 x6 x7 H=>
  ldI .i64 H x2 0 (fun v1=>ld1 H x2 1 (fun v2=>AC Tryz.prog T0 63 [(Value.agg ⟨[(Value.int .i64 v1),v2]⟩),(Value.int .i64 x7)] H (fun v3 H4=>AC Tryz.prog T0 29 [v3] H4 (fun v6 H7=>asI .u64 v6 (fun v8=>B5 P N1 x1 x2 x5 x6 x7 (IntKind.u64.wrap (BitVec.ofInt 64 v8&&&BitVec.ofInt 64 x1).toNat) H7)))))
theorem q6 P N1:Q o6 (E k2 (B5 P N1)) k4 (B6 P N1):=fun _ _ _ _ _ _ _=>by kernel_rfl
def o7:=O 966
def B7 (P:PT) (N1:Y k0):Y k0:=fun x1 x2 x5 x6 H=>
  ldI .i64 H x2 0 (fun v1=>ld1 H x2 1 (fun v2=>ldI .i64 H x5 0 (fun v3=>ld1 H x5 1 (fun v5=>asB v5 (fun v4=>AC Tryz.prog T0 62 [(Value.agg ⟨[(Value.int .i64 v1),v2]⟩),(Value.agg ⟨[(Value.int .i64 v3),(Value.bool v4)]⟩)] H (fun v6 H7=>asI .i64 v6 (fun v8=>B6 P N1 x1 x2 x5 x6 v8 H7)))))))
theorem q7 P N1:Q o7 (E k4 (B6 P N1)) k0 (B7 P N1):=fun _ _ _ _ _ _=>by kernel_rfl
def o8:=O 482
def B8 (P:PT) (N1:Y k0):Y k0:=fun x1 x2 x5 x6 H=>
  ldI .i64 H x5 0 (fun v1=>((0:Int)≤v1)∧(B7 P N1 (IntKind.u64.wrap (BitVec.ofInt 64 x1&&&~~~(BitVec.ofInt 64 (IntKind.u64.wrap (1*2^(min (Int.toNat v1) 64))))).toNat) x2 x5 x6 H))
theorem q8 P N1:Q o8 (E k0 (B7 P N1)) k0 (B8 P N1):=fun _ _ _ _ _ _=>by kernel_rfl
def o9:=O 240
def B9 (P:PT) (N1:Y k0):Y k0:=fun x1 x2 x5 x6 H=>
  ldI .i64 H x5 0 (fun v1=>ld1 H x5 1 (fun v3=>asB v3 (fun v2=>newK H [(Value.int .i64 v1),(Value.bool v2)] 61 (fun b4 H5=>apK T0 61 H5 x6 (Value.slice (some ⟨b4,0,none⟩) 1 (1+1)) (fun v6 H7=>B8 P N1 x1 x2 x5 v6 H7)))))
theorem q9 P N1:Q o9 (E k0 (B8 P N1)) k0 (B9 P N1):=fun _ _ _ _ _ _=>by kernel_rfl
def L1 (P:PT):Y k0:=fun x1 x2 x5 x6 H=>
  ∃ (I:Y k0) (μ:NTy k0 (AHeap→Nat)),I x1 x2 x5 x6 H∧∀ y1 y2 y5 y6 G,I y1 y2 y5 y6 G→B9 P (fun z1 z2 z5 z6 G'=>I z1 z2 z5 z6 G'∧μ z1 z2 z5 z6 G'<μ y1 y2 y5 y6 G) y1 y2 y5 y6 G
theorem l1 P:LQ k0 (L1 P) (B9 P):=fun ⟨_,_,_,_,_⟩ _ ⟨I,μ,h0,hI⟩=>⟨apT _ I,apT _ μ,h0,fun ⟨_,_,_,_,_⟩ _ h=>hI _ _ _ _ _  h⟩
abbrev k5:Sk:=[(1,.i .u64),(2,.x),(5,.x)]
def o10:=O 14
def B10 (P:PT):Y k5:=fun x1 x2 x5 H=>
  L1 P x1 x2 x5 (Value.slice none 0 0) H
theorem q10 P:Q o10 (E k0 (L1 P)) k5 (B10 P):=fun _ _ _ _ _=>by kernel_rfl
abbrev k6:Sk:=[(1,.i .u64),(2,.x)]
def o11:=O 6
def B11 (P:PT):Y k6:=fun x1 x2 H=>
  AC Tryz.prog T0 25 [(Value.int .u64 x1)] H (fun v1 H2=>idxK v1 0 1 (fun b4 o5=>ldI .i64 H2 b4 o5 (fun v6=>newK H2 [(Value.int .i64 0),(Value.bool false)] 61 (fun b7 H8=>stK H8 b7 0 [(Value.int .i64 v6),(Value.bool false)] (fun H9=>B10 P x1 x2 b7 H9)))))
theorem q11 P:Q o11 (E k5 (B10 P)) k6 (B11 P):=fun _ _ _ _=>by kernel_rfl
abbrev k7:Sk:=[(0,.g [.i,.v]),(1,.i .u64)]
def o12:=O 2
def B12 (P:PT):Y k7:=fun x0a x0b x1 H=>
  newK H [(Value.int .i64 x0a),x0b] 26 (fun b1 H2=>B11 P x1 b1 H2)
theorem q12 P:Q o12 (E k6 (B11 P)) k7 (B12 P):=fun _ _ _ _ _=>by kernel_rfl
def code:Code:=(.seq (R 0 o12) (.seq (R 1 o11) (.seq (R 2 o10) (.block 0 (.loop (.block 1 (.seq (R 3 o9) (.seq (R 4 o8) (.seq (R 5 o7) (.seq (R 6 o6) (.seq (.seq (R 7 o5) (.cond (.tmp 34) (.seq (R 8 o4) .ret) .skip)) (.seq (R 9 o3) (R 10 o2)))))))))))))
theorem body:Tryz.f32.body=some code:=by kernel_rfl
theorem main (P:PT):∀ env H,(En 50 k7 (B12 P)) env H→AW Tryz.prog T0 code env H (M (ret P)):=
  (r_seq (b (q12 P)) (r_seq (b (q11 P)) (r_seq (b (q10 P)) (r_block (rL (l1 P) (fun N1=>(r_block (r_seq (b (q9 P N1)) (r_seq (b (q8 P N1)) (r_seq (b (q7 P N1)) (r_seq (b (q6 P N1)) (r_seq (r_seq (b (q5 P N1)) (r_cond rfl (r_seq (b (q4 P N1)) r_ret) r_skip)) (r_seq (b (q3 P N1)) (b (q2 P N1)))))))))))))))
theorem ac (P:PT) (x0a:Int) (x0b:Value) (x1:Int) (H:AHeap) (h:B12 P x0a x0b x1 H):AC Tryz.prog T0 32 [(Value.agg ⟨[(Value.int .i64 x0a),x0b]⟩),(Value.int .u64 x1)] H P:=
  r_fn T0_ok (c:=code) (n:=50) Tryz.func32 body (by kernel_rfl) (main P) (En_mk (x0a,x0b,x1,()) (by kernel_rfl) ⟨by kernel_rfl,by kernel_rfl,trivial⟩ h)

end F32
namespace F33
abbrev E:=En 14
abbrev Q:=QB Tryz.prog T0 14
def O (k:Nat):=ob Tryz.f33 (pth k)
def ret (P:PT):EP:=retE T0 14 Tryz.f33 P
abbrev k0:Sk:=[]
def o1:=O 14
def B1 (P:PT):Y k0:=fun H=>
  P (Value.int .i64 0) H
theorem q1 P:Q o1 (ret P) k0 (B1 P):=fun _ _=>by kernel_rfl
def o2:=O 100
def B2 (P:PT):Y k0:=fun H=>
  P (Value.int .i64 1) H
theorem q2 P:Q o2 (ret P) k0 (B2 P):=fun _ _=>by kernel_rfl
def o3:=O 412
def B3 (P:PT):Y k0:=fun H=>
  P (Value.int .i64 2) H
theorem q3 P:Q o3 (ret P) k0 (B3 P):=fun _ _=>by kernel_rfl
abbrev k1:Sk:=[(1,.v),(2,.x)]
def o4:=O 102
def B4 (P:PT):Y k1:=fun x1 x2 H=>
  ldI .i64 H x2 0 (fun v1=>ld1 H x2 1 (fun v2=>AC Tryz.prog T0 64 [(Value.agg ⟨[(Value.int .i64 v1),v2]⟩),x1] H (fun v3 H4=>asB v3 (fun v5=>pif (!v5) (B3 P H4) (B1 P H4)))))
theorem q4 P:Q o4 (cnd 9 (E k0 (B3 P)) (E k0 (B1 P))) k1 (B4 P):=fun _ _ _ _=>by kernel_rfl
def o5:=O 24
def B5 (P:PT):Y k1:=fun x1 x2 H=>
  ldI .i64 H x2 0 (fun v1=>ld1 H x2 1 (fun v2=>AC Tryz.prog T0 23 [(Value.agg ⟨[(Value.int .i64 v1),v2]⟩)] H (fun v3 H4=>asB v3 (fun v5=>pif (!v5) (B2 P H4) (B4 P x1 x2 H4)))))
theorem q5 P:Q o5 (cnd 5 (E k0 (B2 P)) (E k1 (B4 P))) k1 (B5 P):=fun _ _ _ _=>by kernel_rfl
abbrev k2:Sk:=[(0,.g [.i,.v]),(1,.v)]
def o6:=O 2
def B6 (P:PT):Y k2:=fun x0a x0b x1 H=>
  newK H [(Value.int .i64 x0a),x0b] 26 (fun b1 H2=>B5 P x1 b1 H2)
theorem q6 P:Q o6 (E k1 (B5 P)) k2 (B6 P):=fun _ _ _ _ _=>by kernel_rfl
def code:Code:=(.seq (R 0 o6) (.seq (.block 0 (.seq (R 1 o5) (.cond (.tmp 5) (.seq (R 2 o2) .ret) (.seq (R 3 o4) (.cond (.tmp 9) (.seq (R 4 o3) .ret) .skip))))) (.seq (R 5 o1) .ret)))
theorem body:Tryz.f33.body=some code:=by kernel_rfl
theorem main (P:PT):∀ env H,(En 14 k2 (B6 P)) env H→AW Tryz.prog T0 code env H (M (ret P)):=
  (r_seq (b (q6 P)) (r_seq (r_block (r_seq (b (q5 P)) (r_cond rfl (r_seq (b (q2 P)) r_ret) (r_seq (b (q4 P)) (r_cond rfl (r_seq (b (q3 P)) r_ret) r_skip))))) (r_seq (b (q1 P)) r_ret)))
theorem ac (P:PT) (x0a:Int) (x0b x1:Value) (H:AHeap) (h:B6 P x0a x0b x1 H):AC Tryz.prog T0 33 [(Value.agg ⟨[(Value.int .i64 x0a),x0b]⟩),x1] H P:=
  r_fn T0_ok (c:=code) (n:=14) Tryz.func33 body (by kernel_rfl) (main P) (En_mk (x0a,x0b,x1,()) (by kernel_rfl) ⟨by kernel_rfl,by kernel_rfl,trivial⟩ h)

end F33
namespace F34
abbrev E:=En 92
abbrev Q:=QB Tryz.prog T0 92
def O (k:Nat):=ob Tryz.f34 (pth k)
def ret (P:PT):EP:=retE T0 92 Tryz.f34 P
abbrev k0:Sk:=[(6,.v)]
def o1:=O 30
def B1 (P:PT):Y k0:=fun x6 H=>
  P x6 H
theorem q1 P:Q o1 (ret P) k0 (B1 P):=fun _ _ _=>by kernel_rfl
abbrev k1:Sk:=[(1,.v),(2,.x),(5,.v),(6,.v),(7,J)]
def o3:=O 467
def B3 (P:PT) (N2:Y k1):Y k1:=fun x1 x2 x5 x6 x7 H=>
  N2 x1 x2 x5 x6 (IntKind.i64.wrap (x7+1)) H
theorem q3 P N2:Q o3 (E k1 N2) k1 (B3 P N2):=fun _ _ _ _ _ _ _=>by kernel_rfl
abbrev k2:Sk:=[(1,.v),(2,.x),(5,.v),(6,.v),(7,J),(8,.v)]
def o4:=O 7463
def B4 (P:PT) (N2:Y k1):Y k2:=fun x1 x2 x5 x6 x7 x8 H=>
  pif (Value.oneCell' x8) (newK H [x8] 30 (fun b1 H2=>apK T0 30 H2 x6 (Value.slice (some ⟨b1,0,none⟩) 1 (1+1)) (fun v3 H4=>B3 P N2 x1 x2 x5 v3 x7 H4))) False
theorem q4 P N2:Q o4 (E k1 (B3 P N2)) k2 (B4 P N2):=fun _ _ _ _ _ _ _ _=>by kernel_rfl
abbrev k3:Sk:=[(1,.v),(2,.x),(5,.v),(6,.v),(7,J),(8,.v),(9,J),(10,J)]
def o6:=O 3820639
def B6 (P:PT) (N2:Y k1) (N5:Y k3):Y k3:=fun x1 x2 x5 x6 x7 x8 x9 x10 H=>
  ldI .i64 H x2 0 (fun v1=>ld1 H x2 1 (fun v2=>AC Tryz.prog T0 67 [(Value.agg ⟨[(Value.int .i64 v1),v2]⟩),(Value.int .i64 x9),(Value.int .i64 x10)] H (fun v3 H4=>asI .i64 v3 (fun v5=>N5 x1 x2 x5 x6 x7 x8 x9 v5 H4))))
theorem q6 P N2 N5:Q o6 (E k3 N5) k3 (B6 P N2 N5):=fun _ _ _ _ _ _ _ _ _ _=>by kernel_rfl
abbrev k4:Sk:=[(1,.v),(2,.x),(5,.v),(6,.v),(7,J),(8,.v),(10,J),(12,J)]
def o7:=O 3820638
def B7 (P:PT) (N2:Y k1) (N5:Y k3):Y k4:=fun x1 x2 x5 x6 x7 x8 x10 x12 H=>
  B6 P N2 N5 x1 x2 x5 x6 x7 x8 x12 x10 H
theorem q7 P N2 N5:Q o7 (E k3 (B6 P N2 N5)) k4 (B7 P N2 N5):=fun _ _ _ _ _ _ _ _ _ _=>by kernel_rfl
abbrev k5:Sk:=[(1,.v),(2,.x),(5,.v),(6,.v),(7,J),(8,.v),(9,J),(10,J),(11,.v),(12,J),(13,J)]
def o9:=O 61130195
def B9 (P:PT) (N2:Y k1) (N5:Y k3) (N8:Y k5):Y k5:=fun x1 x2 x5 x6 x7 x8 x9 x10 x11 x12 x13 H=>
  N8 x1 x2 x5 x6 x7 x8 x9 x10 x11 x12 (IntKind.i64.wrap (x13+1)) H
theorem q9 P N2 N5 N8:Q o9 (E k5 N8) k5 (B9 P N2 N5 N8):=fun _ _ _ _ _ _ _ _ _ _ _ _ _=>by kernel_rfl
abbrev k6:Sk:=[(1,.v),(2,.x),(5,.v),(6,.v),(7,J),(8,.v),(9,J),(10,J),(11,.v),(13,J)]
def o10:=O 489041554
def B10 (P:PT) (N2:Y k1) (N5:Y k3) (N8:Y k5):Y k6:=fun x1 x2 x5 x6 x7 x8 x9 x10 x11 x13 H=>
  idxK x11 x13 1 (fun b1 o2=>ldI .i64 H b1 o2 (fun v3=>B9 P N2 N5 N8 x1 x2 x5 x6 x7 x8 x9 x10 x11 v3 x13 H))
theorem q10 P N2 N5 N8:Q o10 (E k5 (B9 P N2 N5 N8)) k6 (B10 P N2 N5 N8):=fun _ _ _ _ _ _ _ _ _ _ _ _=>by kernel_rfl
def o11:=O 244520776
def B11 (P:PT) (N2:Y k1) (N5:Y k3) (N8:Y k5):Y k5:=fun x1 x2 x5 x6 x7 x8 x9 x10 x11 x12 x13 H=>
  idxK x11 x13 1 (fun b1 o2=>ldI .i64 H b1 o2 (fun v3=>pif ((v3:Int) != x9) (idxK x11 x13 1 (fun b4 o5=>ldI .i64 H b4 o5 (fun v6=>AC Tryz.prog T0 65 [x1,(Value.int .i64 v6)] H (fun v7 H8=>asB v7 (fun v9=>pif (!v9) (B10 P N2 N5 N8 x1 x2 x5 x6 x7 x8 x9 x10 x11 x13 H8) (B9 P N2 N5 N8 x1 x2 x5 x6 x7 x8 x9 x10 x11 x12 x13 H8)))))) (B9 P N2 N5 N8 x1 x2 x5 x6 x7 x8 x9 x10 x11 x12 x13 H)))
theorem q11 P N2 N5 N8:Q o11 (cnd 77 (E k6 (B10 P N2 N5 N8)) (E k5 (B9 P N2 N5 N8))) k5 (B11 P N2 N5 N8):=fun _ _ _ _ _ _ _ _ _ _ _ _ _=>by kernel_rfl
def o12:=O 61130192
def B12 (P:PT) (N2:Y k1) (N5:Y k3) (N8:Y k5):Y k5:=fun x1 x2 x5 x6 x7 x8 x9 x10 x11 x12 x13 H=>
  pif (decide ((x13:Int)<3)) (B11 P N2 N5 N8 x1 x2 x5 x6 x7 x8 x9 x10 x11 x12 x13 H) (B7 P N2 N5 x1 x2 x5 x6 x7 x8 x10 x12 H)
theorem q12 P N2 N5 N8:Q o12 (cnd 60 (E k5 (B11 P N2 N5 N8)) (E k4 (B7 P N2 N5))) k5 (B12 P N2 N5 N8):=fun _ _ _ _ _ _ _ _ _ _ _ _ _=>by kernel_rfl
def L8 (P:PT) (N2:Y k1) (N5:Y k3):Y k5:=fun x1 x2 x5 x6 x7 x8 x9 x10 x11 x12 x13 H=>
  ∃ (I:Y k5) (μ:NTy k5 (AHeap→Nat)),I x1 x2 x5 x6 x7 x8 x9 x10 x11 x12 x13 H∧∀ y1 y2 y5 y6 y7 y8 y9 y10 y11 y12 y13 G,I y1 y2 y5 y6 y7 y8 y9 y10 y11 y12 y13 G→B12 P N2 N5 (fun z1 z2 z5 z6 z7 z8 z9 z10 z11 z12 z13 G'=>I z1 z2 z5 z6 z7 z8 z9 z10 z11 z12 z13 G'∧μ z1 z2 z5 z6 z7 z8 z9 z10 z11 z12 z13 G'<μ y1 y2 y5 y6 y7 y8 y9 y10 y11 y12 y13 G) y1 y2 y5 y6 y7 y8 y9 y10 y11 y12 y13 G
theorem l8 P N2 N5:LQ k5 (L8 P N2 N5) (B12 P N2 N5):=fun ⟨_,_,_,_,_,_,_,_,_,_,_,_⟩ _ ⟨I,μ,h0,hI⟩=>⟨apT _ I,apT _ μ,h0,fun ⟨_,_,_,_,_,_,_,_,_,_,_,_⟩ _ h=>hI _ _ _ _ _ _ _ _ _ _ _ _  h⟩
abbrev k7:Sk:=[(1,.v),(2,.x),(5,.v),(6,.v),(7,J),(8,.v),(9,J),(10,J),(11,.v),(12,J)]
def o13:=O 3820636
def B13 (P:PT) (N2:Y k1) (N5:Y k3):Y k7:=fun x1 x2 x5 x6 x7 x8 x9 x10 x11 x12 H=>
  L8 P N2 N5 x1 x2 x5 x6 x7 x8 x9 x10 x11 x12 0 H
theorem q13 P N2 N5:Q o13 (E k5 (L8 P N2 N5)) k7 (B13 P N2 N5):=fun _ _ _ _ _ _ _ _ _ _ _ _=>by kernel_rfl
def o14:=O 955158
def B14 (P:PT) (N2:Y k1) (N5:Y k3):Y k3:=fun x1 x2 x5 x6 x7 x8 x9 x10 H=>
  ldI .i64 H x2 0 (fun v1=>ld1 H x2 1 (fun v2=>AC Tryz.prog T0 66 [(Value.agg ⟨[(Value.int .i64 v1),v2]⟩),(Value.int .i64 x10)] H (fun v3 H4=>B13 P N2 N5 x1 x2 x5 x6 x7 x8 x9 x10 v3 x9 H4)))
theorem q14 P N2 N5:Q o14 (E k7 (B13 P N2 N5)) k3 (B14 P N2 N5):=fun _ _ _ _ _ _ _ _ _ _=>by kernel_rfl
def o15:=O 477578
def B15 (P:PT) (N2:Y k1) (N5:Y k3):Y k3:=fun x1 x2 x5 x6 x7 x8 x9 x10 H=>
  newK H [(Value.int .i64 x9)] 2 (fun b1 H2=>apK T0 2 H2 x8 (Value.slice (some ⟨b1,0,none⟩) 1 (1+1)) (fun v3 H4=>B14 P N2 N5 x1 x2 x5 x6 x7 v3 x9 x10 H4))
theorem q15 P N2 N5:Q o15 (E k3 (B14 P N2 N5)) k3 (B15 P N2 N5):=fun _ _ _ _ _ _ _ _ _ _=>by kernel_rfl
def o16:=O 238788
def B16 (P:PT) (N2:Y k1) (N5:Y k3):Y k3:=fun x1 x2 x5 x6 x7 x8 x9 x10 H=>
  idxK x5 x9 1 (fun b1 o2=>stK H b1 o2 [(Value.bool true)] (fun H3=>B15 P N2 N5 x1 x2 x5 x6 x7 x8 x9 x10 H3))
theorem q16 P N2 N5:Q o16 (E k3 (B15 P N2 N5)) k3 (B16 P N2 N5):=fun _ _ _ _ _ _ _ _ _ _=>by kernel_rfl
def o17:=O 119392
def B17 (P:PT) (N2:Y k1) (N5:Y k3):Y k3:=fun x1 x2 x5 x6 x7 x8 x9 x10 H=>
  idxK x5 x9 1 (fun b1 o2=>ld1 H b1 o2 (fun v4=>asB v4 (fun v3=>pif (!v3) (B16 P N2 N5 x1 x2 x5 x6 x7 x8 x9 x10 H) (B4 P N2 x1 x2 x5 x6 x7 x8 H))))
theorem q17 P N2 N5:Q o17 (cnd 47 (E k3 (B16 P N2 N5)) (E k2 (B4 P N2))) k3 (B17 P N2 N5):=fun _ _ _ _ _ _ _ _ _ _=>by kernel_rfl
def L5 (P:PT) (N2:Y k1):Y k3:=fun x1 x2 x5 x6 x7 x8 x9 x10 H=>
  ∃ (I:Y k3) (μ:NTy k3 (AHeap→Nat)),I x1 x2 x5 x6 x7 x8 x9 x10 H∧∀ y1 y2 y5 y6 y7 y8 y9 y10 G,I y1 y2 y5 y6 y7 y8 y9 y10 G→B17 P N2 (fun z1 z2 z5 z6 z7 z8 z9 z10 G'=>I z1 z2 z5 z6 z7 z8 z9 z10 G'∧μ z1 z2 z5 z6 z7 z8 z9 z10 G'<μ y1 y2 y5 y6 y7 y8 y9 y10 G) y1 y2 y5 y6 y7 y8 y9 y10 G
theorem l5 P N2:LQ k3 (L5 P N2) (B17 P N2):=fun ⟨_,_,_,_,_,_,_,_,_⟩ _ ⟨I,μ,h0,hI⟩=>⟨apT _ I,apT _ μ,h0,fun ⟨_,_,_,_,_,_,_,_,_⟩ _ h=>hI _ _ _ _ _ _ _ _ _  h⟩
def o18:=O 3730
def B18 (P:PT) (N2:Y k1):Y k1:=fun x1 x2 x5 x6 x7 H=>
  ld1 H x2 1 (fun v1=>idxK v1 x7 2 (fun b2 o3=>ldI .i64 H b2 (o3+1) (fun v4=>newK H [] 2 (fun b5 H6=>L5 P N2 x1 x2 x5 x6 x7 (Value.slice (some ⟨b5,0,none⟩) 0 (0+1)) x7 v4 H6))))
theorem q18 (P:PT) (N2:Y k1):QD Tryz.prog T0 92 o18 [(1,false),(2,false),(3,false),(4,false),(5,false),(6,false),(7,false),(0,false),(8,false),(9,false),(10,false)] (En 92 k3 (L5 P N2)) k1 (B18 P N2):=fun _ _ _ _ _ _ _  => by kernel_rfl
def o19:=O 3728
def B19 (P:PT) (N2:Y k1):Y k1:=fun x1 x2 x5 x6 x7 H=>
  idxK x5 x7 1 (fun b1 o2=>ld1 H b1 o2 (fun v4=>asB v4 (fun v3=>pif v3 (B3 P N2 x1 x2 x5 x6 x7 H) (AC Tryz.prog T0 65 [x1,(Value.int .i64 x7)] H (fun v5 H6=>asB v5 (fun v7=>pif v7 (B3 P N2 x1 x2 x5 x6 x7 H6) (B18 P N2 x1 x2 x5 x6 x7 H6)))))))
theorem q19 P N2:Q o19 (cnd 34 (E k1 (B3 P N2)) (E k1 (B18 P N2))) k1 (B19 P N2):=fun _ _ _ _ _ _ _=>by kernel_rfl
def o20:=O 464
def B20 (P:PT) (N2:Y k1):Y k1:=fun x1 x2 x5 x6 x7 H=>
  ld1 H x2 1 (fun v1=>lenK v1 (fun n2=>pif (decide ((x7:Int)<(n2:Int))) (B19 P N2 x1 x2 x5 x6 x7 H) (B1 P x6 H)))
theorem q20 P N2:Q o20 (cnd 23 (E k1 (B19 P N2)) (E k0 (B1 P))) k1 (B20 P N2):=fun _ _ _ _ _ _ _=>by kernel_rfl
def L2 (P:PT):Y k1:=fun x1 x2 x5 x6 x7 H=>
  ∃ (I:Y k1) (μ:NTy k1 (AHeap→Nat)),I x1 x2 x5 x6 x7 H∧∀ y1 y2 y5 y6 y7 G,I y1 y2 y5 y6 y7 G→B20 P (fun z1 z2 z5 z6 z7 G'=>I z1 z2 z5 z6 z7 G'∧μ z1 z2 z5 z6 z7 G'<μ y1 y2 y5 y6 y7 G) y1 y2 y5 y6 y7 G
theorem l2 P:LQ k1 (L2 P) (B20 P):=fun ⟨_,_,_,_,_,_⟩ _ ⟨I,μ,h0,hI⟩=>⟨apT _ I,apT _ μ,h0,fun ⟨_,_,_,_,_,_⟩ _ h=>hI _ _ _ _ _ _  h⟩
abbrev k8:Sk:=[(1,.v),(2,.x),(5,.v),(6,.v)]
def o21:=O 28
def B21 (P:PT):Y k8:=fun x1 x2 x5 x6 H=>
  L2 P x1 x2 x5 x6 0 H
theorem q21 P:Q o21 (E k1 (L2 P)) k8 (B21 P):=fun _ _ _ _ _ _=>by kernel_rfl
abbrev k9:Sk:=[(1,.v),(2,.x)]
def o22:=O 6
def B22 (P:PT):Y k9:=fun x1 x2 H=>
  ld1 H x2 1 (fun v1=>lenK v1 (fun n2=>mkR H 1 4 [(Value.bool false)] (n2:Int) (n2:Int) (fun v4 H3=>newK H3 [] 30 (fun b5 H6=>B21 P x1 x2 v4 (Value.slice (some ⟨b5,0,none⟩) 0 (0+1)) H6))))
theorem q22 P:Q o22 (E k8 (B21 P)) k9 (B22 P):=fun _ _ _ _=>by kernel_rfl
abbrev k10:Sk:=[(0,.g [.i,.v]),(1,.v)]
def o23:=O 2
def B23 (P:PT):Y k10:=fun x0a x0b x1 H=>
  newK H [(Value.int .i64 x0a),x0b] 26 (fun b1 H2=>B22 P x1 b1 H2)
theorem q23 P:Q o23 (E k9 (B22 P)) k10 (B23 P):=fun _ _ _ _ _=>by kernel_rfl
def code:Code:=(.seq (R 0 o23) (.seq (R 1 o22) (.seq (.seq (R 2 o21) (.block 0 (.loop (.seq (.seq (R 3 o20) (.cond (.tmp 23) .skip (.exit 0))) (.seq (.block 1 (.seq (.seq (R 5 o19) (.cond (.tmp 34) (.exit 1) .skip)) (.seq (.region 6 ⟨o18⟩ true) (.seq (.block 2 (.loop (.seq (.seq (R 7 o17) (.cond (.tmp 47) .skip (.exit 2))) (.block 3 (.seq (R 8 o16) (.seq (R 9 o15) (.seq (R 10 o14) (.seq (.seq (R 11 o13) (.block 4 (.loop (.seq (.seq (R 12 o12) (.cond (.tmp 60) .skip (.exit 4))) (.seq (.block 5 (.seq (R 14 o11) (.cond (.tmp 77) (R 15 o10) .skip))) (R 13 o9)))))) (.seq (R 16 o7) (R 17 o6)))))))))) (R 18 o4))))) (R 4 o3)))))) (.seq (R 19 o1) .ret))))
theorem body:Tryz.f34.body=some code:=by kernel_rfl
theorem main (P:PT):∀ env H,(En 92 k10 (B23 P)) env H→AW Tryz.prog T0 code env H (M (ret P)):=
  (r_seq (b (q23 P)) (r_seq (b (q22 P)) (r_seq (r_seq (b (q21 P)) (r_block (rL (l2 P) (fun N2=>(r_seq (r_seq (b (q20 P N2)) (r_cond rfl r_skip (r_exit (fun _ _ h=>h)))) (r_seq (r_block (r_seq (r_seq (b (q19 P N2)) (r_cond rfl (r_exit (fun _ _ h=>h)) r_skip)) (r_seq (rD T0_ok mixed [(1,false),(2,false),(3,false),(4,false),(5,false),(6,false),(7,false),(0,false),(8,false),(9,false),(10,false)] (by kernel_rfl) (q18 P N2)) (r_seq (r_block (rL (l5 P N2) (fun N5=>(r_seq (r_seq (b (q17 P N2 N5)) (r_cond rfl r_skip (r_exit (fun _ _ h=>h)))) (r_block (r_seq (b (q16 P N2 N5)) (r_seq (b (q15 P N2 N5)) (r_seq (b (q14 P N2 N5)) (r_seq (r_seq (b (q13 P N2 N5)) (r_block (rL (l8 P N2 N5) (fun N8=>(r_seq (r_seq (b (q12 P N2 N5 N8)) (r_cond rfl r_skip (r_exit (fun _ _ h=>h)))) (r_seq (r_block (r_seq (b (q11 P N2 N5 N8)) (r_cond rfl (b (q10 P N2 N5 N8)) r_skip))) (b (q9 P N2 N5 N8)))))))) (r_seq (b (q7 P N2 N5)) (b (q6 P N2 N5)))))))))))) (b (q4 P N2)))))) (b (q3 P N2)))))))) (r_seq (b (q1 P)) r_ret))))
theorem ac (P:PT) (x0a:Int) (x0b x1:Value) (H:AHeap) (h:B23 P x0a x0b x1 H):AC Tryz.prog T0 34 [(Value.agg ⟨[(Value.int .i64 x0a),x0b]⟩),x1] H P:=
  r_fn T0_ok (c:=code) (n:=92) Tryz.func34 body (by kernel_rfl) (main P) (En_mk (x0a,x0b,x1,()) (by kernel_rfl) ⟨by kernel_rfl,by kernel_rfl,trivial⟩ h)

end F34
namespace F35
abbrev E:=En 20
abbrev Q:=QB Tryz.prog T0 20
def O (k:Nat):=ob Tryz.f35 (pth k)
def ret (P:PT):EP:=retE T0 20 Tryz.f35 P
abbrev k0:Sk:=[(3,J)]
def o1:=O 30
def B1 (P:PT):Y k0:=fun x3 H=>
  P (Value.int .i64 x3) H
theorem q1 P:Q o1 (ret P) k0 (B1 P):=fun _ _ _=>by kernel_rfl
abbrev k1:Sk:=[(0,.v),(3,J),(4,J)]
def o3:=O 467
def B3 (P:PT) (N2:Y k1):Y k1:=fun x0 x3 x4 H=>
  N2 x0 x3 (IntKind.i64.wrap (x4+1)) H
theorem q3 P N2:Q o3 (E k1 N2) k1 (B3 P N2):=fun _ _ _ _ _=>by kernel_rfl
def o4:=O 932
def B4 (P:PT) (N2:Y k1):Y k1:=fun x0 x3 x4 H=>
  idxK x0 x4 1 (fun b1 o2=>ld1 H b1 o2 (fun v3=>lenK v3 (fun n4=>B3 P N2 x0 (IntKind.i64.wrap (x3+(Int.tmod (n4:Int) 2))) x4 H)))
theorem q4 P N2:Q o4 (E k1 (B3 P N2)) k1 (B4 P N2):=fun _ _ _ _ _=>by kernel_rfl
def o5:=O 464
def B5 (P:PT) (N2:Y k1):Y k1:=fun x0 x3 x4 H=>
  lenK x0 (fun n1=>pif (decide ((x4:Int)<(n1:Int))) (B4 P N2 x0 x3 x4 H) (B1 P x3 H))
theorem q5 P N2:Q o5 (cnd 8 (E k1 (B4 P N2)) (E k0 (B1 P))) k1 (B5 P N2):=fun _ _ _ _ _=>by kernel_rfl
def L2 (P:PT):Y k1:=fun x0 x3 x4 H=>
  ∃ (I:Y k1) (μ:NTy k1 (AHeap→Nat)),I x0 x3 x4 H∧∀ y0 y3 y4 G,I y0 y3 y4 G→B5 P (fun z0 z3 z4 G'=>I z0 z3 z4 G'∧μ z0 z3 z4 G'<μ y0 y3 y4 G) y0 y3 y4 G
theorem l2 P:LQ k1 (L2 P) (B5 P):=fun ⟨_,_,_,_⟩ _ ⟨I,μ,h0,hI⟩=>⟨apT _ I,apT _ μ,h0,fun ⟨_,_,_,_⟩ _ h=>hI _ _ _ _  h⟩
abbrev k2:Sk:=[(0,.v),(3,J)]
def o6:=O 28
def B6 (P:PT):Y k2:=fun x0 x3 H=>
  L2 P x0 x3 0 H
theorem q6 P:Q o6 (E k1 (L2 P)) k2 (B6 P):=fun _ _ _ _=>by kernel_rfl
abbrev k3:Sk:=[(0,.v)]
def o7:=O 6
def B7 (P:PT):Y k3:=fun x0 H=>
  B6 P x0 0 H
theorem q7 P:Q o7 (E k2 (B6 P)) k3 (B7 P):=fun _ _ _=>by kernel_rfl
def o8:=O 2
def B8 (P:PT):Y k3:=fun x0 H=>
  B7 P x0 H
theorem q8 P:Q o8 (E k3 (B7 P)) k3 (B8 P):=fun _ _ _=>by kernel_rfl
def code:Code:=(.seq (R 0 o8) (.seq (R 1 o7) (.seq (.seq (R 2 o6) (.block 0 (.loop (.seq (.seq (R 3 o5) (.cond (.tmp 8) .skip (.exit 0))) (.seq (.block 1 (R 5 o4)) (R 4 o3)))))) (.seq (R 6 o1) .ret))))
theorem body:Tryz.f35.body=some code:=by kernel_rfl
theorem main (P:PT):∀ env H,(En 20 k3 (B8 P)) env H→AW Tryz.prog T0 code env H (M (ret P)):=
  (r_seq (b (q8 P)) (r_seq (b (q7 P)) (r_seq (r_seq (b (q6 P)) (r_block (rL (l2 P) (fun N2=>(r_seq (r_seq (b (q5 P N2)) (r_cond rfl r_skip (r_exit (fun _ _ h=>h)))) (r_seq (r_block (b (q4 P N2))) (b (q3 P N2)))))))) (r_seq (b (q1 P)) r_ret))))
theorem ac (P:PT) (x0:Value) (H:AHeap) (h:B8 P x0 H):AC Tryz.prog T0 35 [x0] H P:=
  r_fn T0_ok (c:=code) (n:=20) Tryz.func35 body (by kernel_rfl) (main P) (En_mk (x0,()) (by kernel_rfl) ⟨by kernel_rfl,trivial⟩ h)

end F35
namespace F36
abbrev E:=En 10
abbrev Q:=QB Tryz.prog T0 10
def O (k:Nat):=ob Tryz.f36 (pth k)
def ret (P:PT):EP:=retE T0 10 Tryz.f36 P
abbrev k0:Sk:=[(0,.v),(2,.x)]
def o1:=O 14
def B1 (P:PT):Y k0:=fun x0 x2 H=>
  AC Tryz.prog T0 68 [x0] H (fun v1 H2=>agg2 v1 (fun v3 v4=>asI .i64 v3 (fun v5=>stK H2 x2 0 [(Value.int .i64 v5),v4] (fun H7=>ldI .i64 H7 x2 0 (fun v8=>ld1 H7 x2 1 (fun v9=>P (Value.agg ⟨[(Value.int .i64 v8),v9]⟩) H7))))))
theorem q1 P:Q o1 (ret P) k0 (B1 P):=fun _ _ _ _=>by kernel_rfl
def o2:=O 52
def B2 (P:PT):Y k0:=fun x0 x2 H=>
  AC Tryz.prog T0 19 [x0] H (fun v1 H2=>agg2 v1 (fun v3 v4=>asI .i64 v3 (fun v5=>stK H2 x2 0 [(Value.int .i64 v5),v4] (fun H7=>ldI .i64 H7 x2 0 (fun v8=>ld1 H7 x2 1 (fun v9=>P (Value.agg ⟨[(Value.int .i64 v8),v9]⟩) H7))))))
theorem q2 P:Q o2 (ret P) k0 (B2 P):=fun _ _ _ _=>by kernel_rfl
def o3:=O 12
def B3 (P:PT):Y k0:=fun x0 x2 H=>
  AC Tryz.prog T0 27 [x0,(Value.int .i64 6)] H (fun v1 H2=>asI .i64 v1 (fun v3=>pif ((v3:Int)==0) (B2 P x0 x2 H2) (B1 P x0 x2 H2)))
theorem q3 P:Q o3 (cnd 5 (E k0 (B2 P)) (E k0 (B1 P))) k0 (B3 P):=fun _ _ _ _=>by kernel_rfl
abbrev k1:Sk:=[(0,.v)]
def o4:=O 2
def B4 (P:PT):Y k1:=fun x0 H=>
  newK H [(Value.int .i64 0),(Value.slice none 0 0)] 26 (fun b1 H2=>B3 P x0 b1 H2)
theorem q4 P:Q o4 (E k0 (B3 P)) k1 (B4 P):=fun _ _ _=>by kernel_rfl
def code:Code:=(.seq (R 0 o4) (.seq (.seq (R 1 o3) (.cond (.tmp 5) (.seq (R 2 o2) .ret) .skip)) (.seq (R 3 o1) .ret)))
theorem body:Tryz.f36.body=some code:=by kernel_rfl
theorem main (P:PT):∀ env H,(En 10 k1 (B4 P)) env H→AW Tryz.prog T0 code env H (M (ret P)):=
  (r_seq (b (q4 P)) (r_seq (r_seq (b (q3 P)) (r_cond rfl (r_seq (b (q2 P)) r_ret) r_skip)) (r_seq (b (q1 P)) r_ret)))
theorem ac (P:PT) (x0:Value) (H:AHeap) (h:B4 P x0 H):AC Tryz.prog T0 36 [x0] H P:=
  r_fn T0_ok (c:=code) (n:=10) Tryz.func36 body (by kernel_rfl) (main P) (En_mk (x0,()) (by kernel_rfl) ⟨by kernel_rfl,trivial⟩ h)

end F36
namespace F37
abbrev E:=En 12
abbrev Q:=QB Tryz.prog T0 12
def O (k:Nat):=ob Tryz.f37 (pth k)
def ret (P:PT):EP:=retE T0 12 Tryz.f37 P
abbrev k0:Sk:=[(4,.x),(5,.b)]
def o1:=O 30
def B1 (P:PT):Y k0:=fun x4 x5 H=>
  ld1 H x4 0 (fun v1=>P (Value.tuple ⟨[v1,(Value.bool (!x5))]⟩) H)
theorem q1 P:Q o1 (ret P) k0 (B1 P):=fun _ _ _ _=>by kernel_rfl
abbrev k1:Sk:=[(1,.x),(4,.x)]
def o2:=O 14
def B2 (P:PT):Y k1:=fun x1 x4 H=>
  ldI .i64 H x1 0 (fun v1=>ld1 H x1 1 (fun v2=>AC Tryz.prog T0 51 [(Value.agg ⟨[(Value.int .i64 v1),v2]⟩),(Value.func (.func 69) ⟨[]⟩ ⟨[(Value.pointer (some ⟨x4,0,none⟩))]⟩)] H (fun v3 H4=>asB v3 (fun v5=>B1 P x4 v5 H4))))
theorem q2 P:Q o2 (E k0 (B1 P)) k1 (B2 P):=fun _ _ _ _=>by kernel_rfl
abbrev k2:Sk:=[(1,.x)]
def o3:=O 6
def B3 (P:PT):Y k2:=fun x1 H=>
  newK H [(Value.slice none 0 0)] 56 (fun b1 H2=>B2 P x1 b1 H2)
theorem q3 P:Q o3 (E k1 (B2 P)) k2 (B3 P):=fun _ _ _=>by kernel_rfl
abbrev k3:Sk:=[(0,.g [.i,.v])]
def o4:=O 2
def B4 (P:PT):Y k3:=fun x0a x0b H=>
  newK H [(Value.int .i64 x0a),x0b] 26 (fun b1 H2=>B3 P b1 H2)
theorem q4 P:Q o4 (E k2 (B3 P)) k3 (B4 P):=fun _ _ _ _=>by kernel_rfl
def code:Code:=(.seq (R 0 o4) (.seq (R 1 o3) (.seq (R 2 o2) (.seq (R 3 o1) .ret))))
theorem body:Tryz.f37.body=some code:=by kernel_rfl
theorem main (P:PT):∀ env H,(En 12 k3 (B4 P)) env H→AW Tryz.prog T0 code env H (M (ret P)):=
  (r_seq (b (q4 P)) (r_seq (b (q3 P)) (r_seq (b (q2 P)) (r_seq (b (q1 P)) r_ret))))
theorem ac (P:PT) (x0a:Int) (x0b:Value) (H:AHeap) (h:B4 P x0a x0b H):AC Tryz.prog T0 37 [(Value.agg ⟨[(Value.int .i64 x0a),x0b]⟩)] H P:=
  r_fn T0_ok (c:=code) (n:=12) Tryz.func37 body (by kernel_rfl) (main P) (En_mk (x0a,x0b,()) (by kernel_rfl) ⟨by kernel_rfl,trivial⟩ h)

end F37
namespace F38
abbrev E:=En 8
abbrev Q:=QB Tryz.prog T0 8
def O (k:Nat):=ob Tryz.f38 (pth k)
def ret (P:PT):EP:=retE T0 8 Tryz.f38 P
abbrev k0:Sk:=[(1,.x)]
def o1:=O 6
def B1 (P:PT):Y k0:=fun x1 H=>
  ld1 H x1 1 (fun v1=>lenK v1 (fun n2=>((0:Int)≤(n2:Int))∧(P (Value.int .u64 (IntKind.u64.wrap ((IntKind.u64.wrap (1*2^(min (Int.toNat (n2:Int)) 64)))-1))) H)))
theorem q1 P:Q o1 (ret P) k0 (B1 P):=fun _ _ _=>by kernel_rfl
abbrev k1:Sk:=[(0,.g [.i,.v])]
def o2:=O 2
def B2 (P:PT):Y k1:=fun x0a x0b H=>
  newK H [(Value.int .i64 x0a),x0b] 26 (fun b1 H2=>B1 P b1 H2)
theorem q2 P:Q o2 (E k0 (B1 P)) k1 (B2 P):=fun _ _ _ _=>by kernel_rfl
def code:Code:=(.seq (R 0 o2) (.seq (R 1 o1) .ret))
theorem body:Tryz.f38.body=some code:=by kernel_rfl
theorem main (P:PT):∀ env H,(En 8 k1 (B2 P)) env H→AW Tryz.prog T0 code env H (M (ret P)):=
  (r_seq (b (q2 P)) (r_seq (b (q1 P)) r_ret))
theorem ac (P:PT) (x0a:Int) (x0b:Value) (H:AHeap) (h:B2 P x0a x0b H):AC Tryz.prog T0 38 [(Value.agg ⟨[(Value.int .i64 x0a),x0b]⟩)] H P:=
  r_fn T0_ok (c:=code) (n:=8) Tryz.func38 body (by kernel_rfl) (main P) (En_mk (x0a,x0b,()) (by kernel_rfl) ⟨by kernel_rfl,trivial⟩ h)

end F38
namespace F39
abbrev E:=En 27
abbrev Q:=QB Tryz.prog T0 27
def O (k:Nat):=ob Tryz.f39 (pth k)
def ret (P:PT):EP:=retE T0 27 Tryz.f39 P
abbrev k0:Sk:=[(3,.v),(4,.v),(5,.x),(6,.x),(9,.x)]
def o1:=O 62
def B1 (P:PT):Y k0:=fun x3 x4 x5 x6 x9 H=>
  ldI .i64 H x6 0 (fun v1=>pif (decide ((v1:Int)>0)) (asP x3 (fun b2 o3=>ld1 H b2 o3 (fun v4=>AC Tryz.prog T0 40 [v4,(Value.func (.func 41) ⟨[]⟩ ⟨[(Value.pointer (some ⟨x9,0,none⟩)),x4,(Value.pointer (some ⟨x5,0,none⟩)),(Value.pointer (some ⟨x6,0,none⟩))]⟩)] H (fun v5 H6=>asB v5 (fun v7=>P (Value.bool v7) H6))))) (P (Value.bool false) H))
theorem q1 P:Q o1 (ret P) k0 (B1 P):=fun _ _ _ _ _ _ _=>by kernel_rfl
abbrev k1:Sk:=[(3,.v),(4,.v),(5,.x),(6,.x),(8,.i .u64)]
def o2:=O 30
def B2 (P:PT):Y k1:=fun x3 x4 x5 x6 x8 H=>
  AC Tryz.prog T0 25 [(Value.int .u64 x8)] H (fun v1 H2=>idxK v1 0 1 (fun b4 o5=>ldI .i64 H2 b4 o5 (fun v6=>newK H2 [(Value.int .i64 0)] 2 (fun b7 H8=>stK H8 b7 0 [(Value.int .i64 v6)] (fun H9=>B1 P x3 x4 x5 x6 b7 H9)))))
theorem q2 P:Q o2 (E k0 (B1 P)) k1 (B2 P):=fun _ _ _ _ _ _ _=>by kernel_rfl
abbrev k2:Sk:=[]
def o3:=O 116
def B3 (P:PT):Y k2:=fun H=>
  P (Value.bool true) H
theorem q3 P:Q o3 (ret P) k2 (B3 P):=fun _ _=>by kernel_rfl
def o4:=O 28
def B4 (P:PT):Y k1:=fun x3 x4 x5 x6 x8 H=>
  pif ((x8:Int)==0) (B3 P H) (B2 P x3 x4 x5 x6 x8 H)
theorem q4 P:Q o4 (cnd 15 (E k2 (B3 P)) (E k1 (B2 P))) k1 (B4 P):=fun _ _ _ _ _ _ _=>by kernel_rfl
abbrev k3:Sk:=[(2,.v),(3,.v),(4,.v),(5,.x),(6,.x)]
def o5:=O 6
def B5 (P:PT):Y k3:=fun x2 x3 x4 x5 x6 H=>
  asP x2 (fun b1 o2=>ldI .i64 H b1 o2 (fun v3=>ld1 H b1 (o2+1) (fun v4=>ldI .u64 H x5 0 (fun v5=>AC Tryz.prog T0 38 [(Value.agg ⟨[(Value.int .i64 v3),v4]⟩)] H (fun v6 H7=>asI .u64 v6 (fun v8=>(AHeap.le H H7)∧(B4 P x3 x4 x5 x6 (IntKind.u64.wrap (BitVec.ofInt 64 v8&&&~~~(BitVec.ofInt 64 v5)).toNat) H7)))))))
theorem q5 (P:PT):QD Tryz.prog T0 27 o5 [(0,false),(2,false),(1,true),(3,false),(4,false)] (En 27 k1 (B4 P)) k3 (B5 P):=fun _ _ _ _ _ _ _  => by kernel_rfl
abbrev k4:Sk:=[(0,.i .u64),(1,J),(2,.v),(3,.v),(4,.v)]
def o6:=O 2
def B6 (P:PT):Y k4:=fun x0 x1 x2 x3 x4 H=>
  newK H [(Value.int .u64 x0)] 45 (fun b1 H2=>newK H2 [(Value.int .i64 x1)] 2 (fun b3 H4=>B5 P x2 x3 x4 b1 b3 H4))
theorem q6 P:Q o6 (E k3 (B5 P)) k4 (B6 P):=fun _ _ _ _ _ _ _=>by kernel_rfl
def code:Code:=(.seq (R 0 o6) (.seq (.region 1 ⟨o5⟩ true) (.seq (.seq (R 2 o4) (.cond (.tmp 15) (.seq (R 3 o3) .ret) .skip)) (.seq (R 4 o2) (.seq (R 5 o1) .ret)))))
theorem body:Tryz.f39.body=some code:=by kernel_rfl
theorem main (P:PT):∀ env H,(En 27 k4 (B6 P)) env H→AW Tryz.prog T0 code env H (M (ret P)):=
  (r_seq (b (q6 P)) (r_seq (rD T0_ok mixed [(0,false),(2,false),(1,true),(3,false),(4,false)] (by kernel_rfl) (q5 P)) (r_seq (r_seq (b (q4 P)) (r_cond rfl (r_seq (b (q3 P)) r_ret) r_skip)) (r_seq (b (q2 P)) (r_seq (b (q1 P)) r_ret)))))
theorem ac (P:PT) (x0 x1:Int) (x2 x3 x4:Value) (H:AHeap) (h:B6 P x0 x1 x2 x3 x4 H):AC Tryz.prog T0 39 [(Value.int .u64 x0),(Value.int .i64 x1),x2,x3,x4] H P:=
  r_fn T0_ok (c:=code) (n:=27) Tryz.func39 body (by kernel_rfl) (main P) (En_mk (x0,x1,x2,x3,x4,()) (by kernel_rfl) ⟨by kernel_rfl,by kernel_rfl,by kernel_rfl,by kernel_rfl,by kernel_rfl,trivial⟩ h)

end F39
namespace F40
abbrev E:=En 9
abbrev Q:=QB Tryz.prog T0 9
def O (k:Nat):=ob Tryz.f40 (pth k)
def ret (P:PT):EP:=retE T0 9 Tryz.f40 P
abbrev k0:Sk:=[(0,.v),(1,.v)]
def o1:=O 6
def B1 (P:PT):Y k0:=fun x0 x1 H=>
  AC Tryz.prog T0 70 [x0,x1] H (fun v1 H2=>asI .i64 v1 (fun v3=>P (Value.bool (decide ((v3:Int)≥0))) H2))
theorem q1 P:Q o1 (ret P) k0 (B1 P):=fun _ _ _ _=>by kernel_rfl
def o2:=O 2
def B2 (P:PT):Y k0:=fun x0 x1 H=>
  B1 P x0 x1 H
theorem q2 P:Q o2 (E k0 (B1 P)) k0 (B2 P):=fun _ _ _ _=>by kernel_rfl
def code:Code:=(.seq (R 0 o2) (.seq (R 1 o1) .ret))
theorem body:Tryz.f40.body=some code:=by kernel_rfl
theorem main (P:PT):∀ env H,(En 9 k0 (B2 P)) env H→AW Tryz.prog T0 code env H (M (ret P)):=
  (r_seq (b (q2 P)) (r_seq (b (q1 P)) r_ret))
theorem ac (P:PT) (x0 x1:Value) (H:AHeap) (h:B2 P x0 x1 H):AC Tryz.prog T0 40 [x0,x1] H P:=
  r_fn T0_ok (c:=code) (n:=9) Tryz.func40 body (by kernel_rfl) (main P) (En_mk (x0,x1,()) (by kernel_rfl) ⟨by kernel_rfl,by kernel_rfl,trivial⟩ h)

end F40
namespace F41
abbrev E:=En 19
abbrev Q:=QB Tryz.prog T0 19
def O (k:Nat):=ob Tryz.f41 (pth k)
def ret (P:PT):EP:=retE T0 19 Tryz.f41 P
abbrev k0:Sk:=[(0,.i .u64),(1,.v),(2,.v),(3,.v),(4,.v)]
def o1:=O 6
def B1 (P:PT):Y k0:=fun x0 x1 x2 x3 x4 H=>
  asP x1 (fun b1 o2=>ldI .i64 H b1 o2 (fun v3=>AC Tryz.prog T0 42 [(Value.int .u64 x0),(Value.int .i64 v3)] H (fun v4 H5=>asB v4 (fun v6=>pif v6 (asP x2 (fun b7 o8=>ld1 H5 b7 o8 (fun v9=>asP x3 (fun b10 o11=>ldI .u64 H5 b10 o11 (fun v12=>asP x4 (fun b13 o14=>ldI .i64 H5 b13 o14 (fun v15=>callV Tryz.prog T0 v9 [(Value.int .u64 (IntKind.u64.wrap (BitVec.ofInt 64 v12|||BitVec.ofInt 64 x0).toNat)),(Value.int .i64 (IntKind.i64.wrap (v15-1)))] H5 (fun v16 H17=>asB v16 (fun v18=>P (Value.bool v18) H17))))))))) (P (Value.bool false) H5)))))
theorem q1 P:Q o1 (ret P) k0 (B1 P):=fun _ _ _ _ _ _ _=>by kernel_rfl
def o2:=O 2
def B2 (P:PT):Y k0:=fun x0 x1 x2 x3 x4 H=>
  B1 P x0 x1 x2 x3 x4 H
theorem q2 P:Q o2 (E k0 (B1 P)) k0 (B2 P):=fun _ _ _ _ _ _ _=>by kernel_rfl
def code:Code:=(.seq (R 0 o2) (.seq (R 1 o1) .ret))
theorem body:Tryz.f41.body=some code:=by kernel_rfl
theorem main (P:PT):∀ env H,(En 19 k0 (B2 P)) env H→AW Tryz.prog T0 code env H (M (ret P)):=
  (r_seq (b (q2 P)) (r_seq (b (q1 P)) r_ret))
theorem ac (P:PT) (x0:Int) (x1 x2 x3 x4:Value) (H:AHeap) (h:B2 P x0 x1 x2 x3 x4 H):AC Tryz.prog T0 41 [(Value.int .u64 x0),x1,x2,x3,x4] H P:=
  r_fn T0_ok (c:=code) (n:=19) Tryz.func41 body (by kernel_rfl) (main P) (En_mk (x0,x1,x2,x3,x4,()) (by kernel_rfl) ⟨by kernel_rfl,by kernel_rfl,by kernel_rfl,by kernel_rfl,by kernel_rfl,trivial⟩ h)

end F41
namespace F42
abbrev E:=En 10
abbrev Q:=QB Tryz.prog T0 10
def O (k:Nat):=ob Tryz.f42 (pth k)
def ret (P:PT):EP:=retE T0 10 Tryz.f42 P
abbrev k0:Sk:=[(0,.i .u64),(1,J)]
def o1:=O 6
def B1 (P:PT):Y k0:=fun x0 x1 H=>
  ((0:Int)≤x1)∧(P (Value.bool ((IntKind.u64.wrap (BitVec.ofInt 64 (Int.fdiv x0 (2^(min (Int.toNat x1) 64)))&&&BitVec.ofInt 64 1).toNat:Int)==1)) H)
theorem q1 P:Q o1 (ret P) k0 (B1 P):=fun _ _ _ _=>by kernel_rfl
def o2:=O 2
def B2 (P:PT):Y k0:=fun x0 x1 H=>
  B1 P x0 x1 H
theorem q2 P:Q o2 (E k0 (B1 P)) k0 (B2 P):=fun _ _ _ _=>by kernel_rfl
def code:Code:=(.seq (R 0 o2) (.seq (R 1 o1) .ret))
theorem body:Tryz.f42.body=some code:=by kernel_rfl
theorem main (P:PT):∀ env H,(En 10 k0 (B2 P)) env H→AW Tryz.prog T0 code env H (M (ret P)):=
  (r_seq (b (q2 P)) (r_seq (b (q1 P)) r_ret))
theorem ac (P:PT) (x0 x1:Int) (H:AHeap) (h:B2 P x0 x1 H):AC Tryz.prog T0 42 [(Value.int .u64 x0),(Value.int .i64 x1)] H P:=
  r_fn T0_ok (c:=code) (n:=10) Tryz.func42 body (by kernel_rfl) (main P) (En_mk (x0,x1,()) (by kernel_rfl) ⟨by kernel_rfl,by kernel_rfl,trivial⟩ h)

end F42
namespace F43
abbrev E:=En 7
abbrev Q:=QB Tryz.prog T0 7
def O (k:Nat):=ob Tryz.f43 (pth k)
def ret (P:PT):EP:=retE T0 7 Tryz.f43 P
abbrev k0:Sk:=[(1,.x)]
def o1:=O 6
def B1 (P:PT):Y k0:=fun x1 H=>
  ldI .i64 H x1 0 (fun v1=>ld1 H x1 1 (fun v2=>newK H [] 2 (fun b3 H4=>newK H4 [] 30 (fun b5 H6=>AC Tryz.prog T0 71 [(Value.agg ⟨[(Value.int .i64 v1),v2]⟩),(Value.slice (some ⟨b3,0,none⟩) 0 (0+1)),(Value.int .i64 0),(Value.slice (some ⟨b5,0,none⟩) 0 (0+1))] H6 (fun v7 H8=>P v7 H8)))))
theorem q1 P:Q o1 (ret P) k0 (B1 P):=fun _ _ _=>by kernel_rfl
abbrev k1:Sk:=[(0,.g [.i,.v])]
def o2:=O 2
def B2 (P:PT):Y k1:=fun x0a x0b H=>
  newK H [(Value.int .i64 x0a),x0b] 26 (fun b1 H2=>B1 P b1 H2)
theorem q2 P:Q o2 (E k0 (B1 P)) k1 (B2 P):=fun _ _ _ _=>by kernel_rfl
def code:Code:=(.seq (R 0 o2) (.seq (R 1 o1) .ret))
theorem body:Tryz.f43.body=some code:=by kernel_rfl
theorem main (P:PT):∀ env H,(En 7 k1 (B2 P)) env H→AW Tryz.prog T0 code env H (M (ret P)):=
  (r_seq (b (q2 P)) (r_seq (b (q1 P)) r_ret))
theorem ac (P:PT) (x0a:Int) (x0b:Value) (H:AHeap) (h:B2 P x0a x0b H):AC Tryz.prog T0 43 [(Value.agg ⟨[(Value.int .i64 x0a),x0b]⟩)] H P:=
  r_fn T0_ok (c:=code) (n:=7) Tryz.func43 body (by kernel_rfl) (main P) (En_mk (x0a,x0b,()) (by kernel_rfl) ⟨by kernel_rfl,trivial⟩ h)

end F43
namespace F44
abbrev E:=En 22
abbrev Q:=QB Tryz.prog T0 22
def O (k:Nat):=ob Tryz.f44 (pth k)
def ret (P:PT):EP:=retE T0 22 Tryz.f44 P
abbrev k0:Sk:=[(5,J)]
def o1:=O 30
def B1 (P:PT):Y k0:=fun x5 H=>
  P (Value.int .i64 x5) H
theorem q1 P:Q o1 (ret P) k0 (B1 P):=fun _ _ _=>by kernel_rfl
abbrev k1:Sk:=[(0,.v),(1,J),(5,J),(6,J)]
def o3:=O 467
def B3 (P:PT) (N2:Y k1):Y k1:=fun x0 x1 x5 x6 H=>
  N2 x0 x1 x5 (IntKind.i64.wrap (x6+1)) H
theorem q3 P N2:Q o3 (E k1 N2) k1 (B3 P N2):=fun _ _ _ _ _ _=>by kernel_rfl
def o4:=O 3730
def B4 (P:PT) (N2:Y k1):Y k1:=fun x0 x1 x5 x6 H=>
  B3 P N2 x0 x1 (IntKind.i64.wrap (x5+1)) x6 H
theorem q4 P N2:Q o4 (E k1 (B3 P N2)) k1 (B4 P N2):=fun _ _ _ _ _ _=>by kernel_rfl
def o5:=O 1864
def B5 (P:PT) (N2:Y k1):Y k1:=fun x0 x1 x5 x6 H=>
  idxK x0 x6 1 (fun b1 o2=>ld1 H b1 o2 (fun v3=>AC Tryz.prog T0 65 [v3,(Value.int .i64 x1)] H (fun v4 H5=>asB v4 (fun v6=>pif v6 (B4 P N2 x0 x1 x5 x6 H5) (B3 P N2 x0 x1 x5 x6 H5)))))
theorem q5 P N2:Q o5 (cnd 18 (E k1 (B4 P N2)) (E k1 (B3 P N2))) k1 (B5 P N2):=fun _ _ _ _ _ _=>by kernel_rfl
def o6:=O 464
def B6 (P:PT) (N2:Y k1):Y k1:=fun x0 x1 x5 x6 H=>
  lenK x0 (fun n1=>pif (decide ((x6:Int)<(n1:Int))) (B5 P N2 x0 x1 x5 x6 H) (B1 P x5 H))
theorem q6 P N2:Q o6 (cnd 10 (E k1 (B5 P N2)) (E k0 (B1 P))) k1 (B6 P N2):=fun _ _ _ _ _ _=>by kernel_rfl
def L2 (P:PT):Y k1:=fun x0 x1 x5 x6 H=>
  ∃ (I:Y k1) (μ:NTy k1 (AHeap→Nat)),I x0 x1 x5 x6 H∧∀ y0 y1 y5 y6 G,I y0 y1 y5 y6 G→B6 P (fun z0 z1 z5 z6 G'=>I z0 z1 z5 z6 G'∧μ z0 z1 z5 z6 G'<μ y0 y1 y5 y6 G) y0 y1 y5 y6 G
theorem l2 P:LQ k1 (L2 P) (B6 P):=fun ⟨_,_,_,_,_⟩ _ ⟨I,μ,h0,hI⟩=>⟨apT _ I,apT _ μ,h0,fun ⟨_,_,_,_,_⟩ _ h=>hI _ _ _ _ _  h⟩
abbrev k2:Sk:=[(0,.v),(1,J),(5,J)]
def o7:=O 28
def B7 (P:PT):Y k2:=fun x0 x1 x5 H=>
  L2 P x0 x1 x5 0 H
theorem q7 P:Q o7 (E k1 (L2 P)) k2 (B7 P):=fun _ _ _ _ _=>by kernel_rfl
abbrev k3:Sk:=[(0,.v),(1,J)]
def o8:=O 6
def B8 (P:PT):Y k3:=fun x0 x1 H=>
  B7 P x0 x1 0 H
theorem q8 P:Q o8 (E k2 (B7 P)) k3 (B8 P):=fun _ _ _ _=>by kernel_rfl
def o9:=O 2
def B9 (P:PT):Y k3:=fun x0 x1 H=>
  B8 P x0 x1 H
theorem q9 P:Q o9 (E k3 (B8 P)) k3 (B9 P):=fun _ _ _ _=>by kernel_rfl
def code:Code:=(.seq (R 0 o9) (.seq (R 1 o8) (.seq (.seq (R 2 o7) (.block 0 (.loop (.seq (.seq (R 3 o6) (.cond (.tmp 10) .skip (.exit 0))) (.seq (.block 1 (.seq (R 5 o5) (.cond (.tmp 18) (R 6 o4) .skip))) (R 4 o3)))))) (.seq (R 7 o1) .ret))))
theorem body:Tryz.f44.body=some code:=by kernel_rfl
theorem main (P:PT):∀ env H,(En 22 k3 (B9 P)) env H→AW Tryz.prog T0 code env H (M (ret P)):=
  (r_seq (b (q9 P)) (r_seq (b (q8 P)) (r_seq (r_seq (b (q7 P)) (r_block (rL (l2 P) (fun N2=>(r_seq (r_seq (b (q6 P N2)) (r_cond rfl r_skip (r_exit (fun _ _ h=>h)))) (r_seq (r_block (r_seq (b (q5 P N2)) (r_cond rfl (b (q4 P N2)) r_skip))) (b (q3 P N2)))))))) (r_seq (b (q1 P)) r_ret))))
theorem ac (P:PT) (x0:Value) (x1:Int) (H:AHeap) (h:B9 P x0 x1 H):AC Tryz.prog T0 44 [x0,(Value.int .i64 x1)] H P:=
  r_fn T0_ok (c:=code) (n:=22) Tryz.func44 body (by kernel_rfl) (main P) (En_mk (x0,x1,()) (by kernel_rfl) ⟨by kernel_rfl,by kernel_rfl,trivial⟩ h)

end F44
namespace F45
abbrev E:=En 73
abbrev Q:=QB Tryz.prog T0 73
def O (k:Nat):=ob Tryz.f45 (pth k)
def ret (P:PT):EP:=retE T0 73 Tryz.f45 P
abbrev k0:Sk:=[]
def o1:=O 126
def B1 (P:PT):Y k0:=fun H=>
  P (Value.bool false) H
theorem q1 P:Q o1 (ret P) k0 (B1 P):=fun _ _=>by kernel_rfl
abbrev k1:Sk:=[(1,.v),(2,.v),(3,J),(4,.x),(9,J),(10,J)]
def o3:=O 2003
def B3 (P:PT) (N2:Y k1):Y k1:=fun x1 x2 x3 x4 x9 x10 H=>
  N2 x1 x2 x3 x4 x9 (IntKind.i64.wrap (x10+1)) H
theorem q3 P N2:Q o3 (E k1 N2) k1 (B3 P N2):=fun _ _ _ _ _ _ _ _=>by kernel_rfl
def o4:=O 256316
def B4 (P:PT) (N2:Y k1):Y k0:=fun H=>
  P (Value.bool true) H
theorem q4 P N2:Q o4 (ret P) k0 (B4 P N2):=fun _ _=>by kernel_rfl
abbrev k2:Sk:=[(1,.v),(2,.v),(3,J),(4,.x),(9,J),(10,J),(11,.v)]
def o5:=O 64078
def B5 (P:PT) (N2:Y k1):Y k2:=fun x1 x2 x3 x4 x9 x10 x11 H=>
  ldI .i64 H x4 0 (fun v1=>ld1 H x4 1 (fun v2=>AC Tryz.prog T0 45 [(Value.agg ⟨[(Value.int .i64 v1),v2]⟩),x1,x11,(Value.int .i64 (IntKind.i64.wrap (x3-1)))] H (fun v3 H4=>asB v3 (fun v5=>pif v5 (B4 P N2 H4) (B3 P N2 x1 x2 x3 x4 x9 x10 H4)))))
theorem q5 P N2:Q o5 (cnd 72 (E k0 (B4 P N2)) (E k1 (B3 P N2))) k2 (B5 P N2):=fun _ _ _ _ _ _ _ _ _=>by kernel_rfl
abbrev k3:Sk:=[(1,.v),(2,.v),(3,J),(4,.x),(9,J),(10,J),(11,.v),(12,J)]
def o7:=O 1025235
def B7 (P:PT) (N2:Y k1) (N6:Y k3):Y k3:=fun x1 x2 x3 x4 x9 x10 x11 x12 H=>
  N6 x1 x2 x3 x4 x9 x10 x11 (IntKind.i64.wrap (x12+1)) H
theorem q7 P N2 N6:Q o7 (E k3 N6) k3 (B7 P N2 N6):=fun _ _ _ _ _ _ _ _ _ _=>by kernel_rfl
def o8:=O 2050468
def B8 (P:PT) (N2:Y k1) (N6:Y k3):Y k3:=fun x1 x2 x3 x4 x9 x10 x11 x12 H=>
  idxK x1 x10 1 (fun b1 o2=>ld1 H b1 o2 (fun v3=>idxK v3 x12 1 (fun b4 o5=>ldI .i64 H b4 o5 (fun v6=>idxK x11 v6 1 (fun b7 o8=>stK H b7 o8 [(Value.bool true)] (fun H9=>B7 P N2 N6 x1 x2 x3 x4 x9 x10 x11 x12 H9))))))
theorem q8 P N2 N6:Q o8 (E k3 (B7 P N2 N6)) k3 (B8 P N2 N6):=fun _ _ _ _ _ _ _ _ _ _=>by kernel_rfl
def o9:=O 1025232
def B9 (P:PT) (N2:Y k1) (N6:Y k3):Y k3:=fun x1 x2 x3 x4 x9 x10 x11 x12 H=>
  idxK x1 x10 1 (fun b1 o2=>ld1 H b1 o2 (fun v3=>lenK v3 (fun n4=>pif (decide ((x12:Int)<(n4:Int))) (B8 P N2 N6 x1 x2 x3 x4 x9 x10 x11 x12 H) (B5 P N2 x1 x2 x3 x4 x9 x10 x11 H))))
theorem q9 P N2 N6:Q o9 (cnd 55 (E k3 (B8 P N2 N6)) (E k2 (B5 P N2))) k3 (B9 P N2 N6):=fun _ _ _ _ _ _ _ _ _ _=>by kernel_rfl
def L6 (P:PT) (N2:Y k1):Y k3:=fun x1 x2 x3 x4 x9 x10 x11 x12 H=>
  ∃ (I:Y k3) (μ:NTy k3 (AHeap→Nat)),I x1 x2 x3 x4 x9 x10 x11 x12 H∧∀ y1 y2 y3 y4 y9 y10 y11 y12 G,I y1 y2 y3 y4 y9 y10 y11 y12 G→B9 P N2 (fun z1 z2 z3 z4 z9 z10 z11 z12 G'=>I z1 z2 z3 z4 z9 z10 z11 z12 G'∧μ z1 z2 z3 z4 z9 z10 z11 z12 G'<μ y1 y2 y3 y4 y9 y10 y11 y12 G) y1 y2 y3 y4 y9 y10 y11 y12 G
theorem l6 P N2:LQ k3 (L6 P N2) (B9 P N2):=fun ⟨_,_,_,_,_,_,_,_,_⟩ _ ⟨I,μ,h0,hI⟩=>⟨apT _ I,apT _ μ,h0,fun ⟨_,_,_,_,_,_,_,_,_⟩ _ h=>hI _ _ _ _ _ _ _ _ _  h⟩
def o10:=O 64076
def B10 (P:PT) (N2:Y k1):Y k2:=fun x1 x2 x3 x4 x9 x10 x11 H=>
  L6 P N2 x1 x2 x3 x4 x9 x10 x11 0 H
theorem q10 P N2:Q o10 (E k3 (L6 P N2)) k2 (B10 P N2):=fun _ _ _ _ _ _ _ _ _=>by kernel_rfl
def o11:=O 16018
def B11 (P:PT) (N2:Y k1):Y k1:=fun x1 x2 x3 x4 x9 x10 H=>
  newK H [] 4 (fun b1 H2=>apK T0 4 H2 (Value.slice (some ⟨b1,0,none⟩) 0 (0+1)) x2 (fun v3 H4=>B10 P N2 x1 x2 x3 x4 x9 x10 v3 H4))
theorem q11 P N2:Q o11 (E k2 (B10 P N2)) k1 (B11 P N2):=fun _ _ _ _ _ _ _ _=>by kernel_rfl
def o12:=O 16016
def B12 (P:PT) (N2:Y k1):Y k1:=fun x1 x2 x3 x4 x9 x10 H=>
  idxK x1 x10 1 (fun b1 o2=>ld1 H b1 o2 (fun v3=>AC Tryz.prog T0 65 [v3,(Value.int .i64 x9)] H (fun v4 H5=>asB v4 (fun v6=>pif (!v6) (B3 P N2 x1 x2 x3 x4 x9 x10 H5) (B11 P N2 x1 x2 x3 x4 x9 x10 H5)))))
theorem q12 P N2:Q o12 (cnd 45 (E k1 (B3 P N2)) (E k1 (B11 P N2))) k1 (B12 P N2):=fun _ _ _ _ _ _ _ _=>by kernel_rfl
def o13:=O 2000
def B13 (P:PT) (N2:Y k1):Y k1:=fun x1 x2 x3 x4 x9 x10 H=>
  lenK x1 (fun n1=>pif (decide ((x10:Int)<(n1:Int))) (pif (decide ((x3:Int)>0)) (B12 P N2 x1 x2 x3 x4 x9 x10 H) (B1 P H)) (B1 P H))
theorem q13 P N2:Q o13 (cnd 36 (E k1 (B12 P N2)) (E k0 (B1 P))) k1 (B13 P N2):=fun _ _ _ _ _ _ _ _=>by kernel_rfl
def L2 (P:PT):Y k1:=fun x1 x2 x3 x4 x9 x10 H=>
  ∃ (I:Y k1) (μ:NTy k1 (AHeap→Nat)),I x1 x2 x3 x4 x9 x10 H∧∀ y1 y2 y3 y4 y9 y10 G,I y1 y2 y3 y4 y9 y10 G→B13 P (fun z1 z2 z3 z4 z9 z10 G'=>I z1 z2 z3 z4 z9 z10 G'∧μ z1 z2 z3 z4 z9 z10 G'<μ y1 y2 y3 y4 y9 y10 G) y1 y2 y3 y4 y9 y10 G
theorem l2 P:LQ k1 (L2 P) (B13 P):=fun ⟨_,_,_,_,_,_,_⟩ _ ⟨I,μ,h0,hI⟩=>⟨apT _ I,apT _ μ,h0,fun ⟨_,_,_,_,_,_,_⟩ _ h=>hI _ _ _ _ _ _ _  h⟩
abbrev k4:Sk:=[(1,.v),(2,.v),(3,J),(4,.x),(9,J)]
def o14:=O 124
def B14 (P:PT):Y k4:=fun x1 x2 x3 x4 x9 H=>
  L2 P x1 x2 x3 x4 x9 0 H
theorem q14 P:Q o14 (E k1 (L2 P)) k4 (B14 P):=fun _ _ _ _ _ _ _=>by kernel_rfl
def o15:=O 244
def B15 (P:PT):Y k0:=fun H=>
  P (Value.bool true) H
theorem q15 P:Q o15 (ret P) k0 (B15 P):=fun _ _=>by kernel_rfl
def o16:=O 60
def B16 (P:PT):Y k4:=fun x1 x2 x3 x4 x9 H=>
  lenK x2 (fun n1=>pif ((x9:Int)==(n1:Int)) (B15 P H) (B14 P x1 x2 x3 x4 x9 H))
theorem q16 P:Q o16 (cnd 28 (E k0 (B15 P)) (E k4 (B14 P))) k4 (B16 P):=fun _ _ _ _ _ _ _=>by kernel_rfl
def o18:=O 226
def B18 (P:PT) (N17:Y k4):Y k4:=fun x1 x2 x3 x4 x9 H=>
  N17 x1 x2 x3 x4 (IntKind.i64.wrap (x9+1)) H
theorem q18 P N17:Q o18 (E k4 N17) k4 (B18 P N17):=fun _ _ _ _ _ _ _=>by kernel_rfl
def o19:=O 224
def B19 (P:PT) (N17:Y k4):Y k4:=fun x1 x2 x3 x4 x9 H=>
  lenK x2 (fun n1=>pif (decide ((x9:Int)<(n1:Int))) (idxK x2 x9 1 (fun b2 o3=>ld1 H b2 o3 (fun v5=>asB v5 (fun v4=>pif v4 (B18 P N17 x1 x2 x3 x4 x9 H) (B16 P x1 x2 x3 x4 x9 H))))) (B16 P x1 x2 x3 x4 x9 H))
theorem q19 P N17:Q o19 (cnd 22 (E k4 (B18 P N17)) (E k4 (B16 P))) k4 (B19 P N17):=fun _ _ _ _ _ _ _=>by kernel_rfl
def L17 (P:PT):Y k4:=fun x1 x2 x3 x4 x9 H=>
  ∃ (I:Y k4) (μ:NTy k4 (AHeap→Nat)),I x1 x2 x3 x4 x9 H∧∀ y1 y2 y3 y4 y9 G,I y1 y2 y3 y4 y9 G→B19 P (fun z1 z2 z3 z4 z9 G'=>I z1 z2 z3 z4 z9 G'∧μ z1 z2 z3 z4 z9 G'<μ y1 y2 y3 y4 y9 G) y1 y2 y3 y4 y9 G
theorem l17 P:LQ k4 (L17 P) (B19 P):=fun ⟨_,_,_,_,_,_⟩ _ ⟨I,μ,h0,hI⟩=>⟨apT _ I,apT _ μ,h0,fun ⟨_,_,_,_,_,_⟩ _ h=>hI _ _ _ _ _ _  h⟩
abbrev k5:Sk:=[(1,.v),(2,.v),(3,J),(4,.x)]
def o20:=O 6
def B20 (P:PT):Y k5:=fun x1 x2 x3 x4 H=>
  L17 P x1 x2 x3 x4 0 H
theorem q20 P:Q o20 (E k4 (L17 P)) k5 (B20 P):=fun _ _ _ _ _ _=>by kernel_rfl
abbrev k6:Sk:=[(0,.g [.i,.v]),(1,.v),(2,.v),(3,J)]
def o21:=O 2
def B21 (P:PT):Y k6:=fun x0a x0b x1 x2 x3 H=>
  newK H [(Value.int .i64 x0a),x0b] 26 (fun b1 H2=>B20 P x1 x2 x3 b1 H2)
theorem q21 P:Q o21 (E k5 (B20 P)) k6 (B21 P):=fun _ _ _ _ _ _ _=>by kernel_rfl
def code:Code:=(.seq (R 0 o21) (.seq (R 1 o20) (.seq (.block 0 (.loop (.seq (.seq (R 2 o19) (.cond (.tmp 22) .skip (.exit 0))) (.block 1 (R 3 o18))))) (.seq (.seq (R 4 o16) (.cond (.tmp 28) (.seq (R 5 o15) .ret) .skip)) (.seq (.seq (R 6 o14) (.block 2 (.loop (.seq (.seq (R 7 o13) (.cond (.tmp 36) .skip (.exit 2))) (.seq (.block 3 (.seq (.seq (R 9 o12) (.cond (.tmp 45) (.exit 3) .skip)) (.seq (R 10 o11) (.seq (.seq (R 11 o10) (.block 4 (.loop (.seq (.seq (R 12 o9) (.cond (.tmp 55) .skip (.exit 4))) (.seq (.block 5 (R 14 o8)) (R 13 o7)))))) (.seq (R 15 o5) (.cond (.tmp 72) (.seq (R 16 o4) .ret) .skip)))))) (R 8 o3)))))) (.seq (R 17 o1) .ret))))))
theorem body:Tryz.f45.body=some code:=by kernel_rfl
theorem main (P:PT):∀ env H,(En 73 k6 (B21 P)) env H→AW Tryz.prog T0 code env H (M (ret P)):=
  (r_seq (b (q21 P)) (r_seq (b (q20 P)) (r_seq (r_block (rL (l17 P) (fun N17=>(r_seq (r_seq (b (q19 P N17)) (r_cond rfl r_skip (r_exit (fun _ _ h=>h)))) (r_block (b (q18 P N17))))))) (r_seq (r_seq (b (q16 P)) (r_cond rfl (r_seq (b (q15 P)) r_ret) r_skip)) (r_seq (r_seq (b (q14 P)) (r_block (rL (l2 P) (fun N2=>(r_seq (r_seq (b (q13 P N2)) (r_cond rfl r_skip (r_exit (fun _ _ h=>h)))) (r_seq (r_block (r_seq (r_seq (b (q12 P N2)) (r_cond rfl (r_exit (fun _ _ h=>h)) r_skip)) (r_seq (b (q11 P N2)) (r_seq (r_seq (b (q10 P N2)) (r_block (rL (l6 P N2) (fun N6=>(r_seq (r_seq (b (q9 P N2 N6)) (r_cond rfl r_skip (r_exit (fun _ _ h=>h)))) (r_seq (r_block (b (q8 P N2 N6))) (b (q7 P N2 N6)))))))) (r_seq (b (q5 P N2)) (r_cond rfl (r_seq (b (q4 P N2)) r_ret) r_skip)))))) (b (q3 P N2)))))))) (r_seq (b (q1 P)) r_ret))))))
theorem ac (P:PT) (x0a:Int) (x0b x1 x2:Value) (x3:Int) (H:AHeap) (h:B21 P x0a x0b x1 x2 x3 H):AC Tryz.prog T0 45 [(Value.agg ⟨[(Value.int .i64 x0a),x0b]⟩),x1,x2,(Value.int .i64 x3)] H P:=
  r_fn T0_ok (c:=code) (n:=73) Tryz.func45 body (by kernel_rfl) (main P) (En_mk (x0a,x0b,x1,x2,x3,()) (by kernel_rfl) ⟨by kernel_rfl,by kernel_rfl,by kernel_rfl,by kernel_rfl,trivial⟩ h)

end F45
namespace F46
abbrev E:=En 30
abbrev Q:=QB Tryz.prog T0 30
def O (k:Nat):=ob Tryz.f46 (pth k)
def ret (P:PT):EP:=retE T0 30 Tryz.f46 P
abbrev k0:Sk:=[(3,.x)]
def o1:=O 30
def B1 (P:PT):Y k0:=fun x3 H=>
  ld1 H x3 0 (fun v1=>P v1 H)
theorem q1 P:Q o1 (ret P) k0 (B1 P):=fun _ _ _=>by kernel_rfl
abbrev k1:Sk:=[(1,.x),(3,.x),(12,.v),(13,J),(14,J)]
def o3:=O 935
def B3 (P:PT) (N2:Y k1):Y k1:=fun x1 x3 x12 x13 x14 H=>
  N2 x1 x3 x12 x13 (IntKind.i64.wrap (x14+1)) H
theorem q3 P N2:Q o3 (E k1 N2) k1 (B3 P N2):=fun _ _ _ _ _ _ _=>by kernel_rfl
abbrev k2:Sk:=[]
def o4:=O 59804
def B4 (P:PT) (N2:Y k1):Y k2:=fun H=>
  P (Value.slice none 0 0) H
theorem q4 P N2:Q o4 (ret P) k2 (B4 P N2):=fun _ _=>by kernel_rfl
abbrev k3:Sk:=[(1,.x),(3,.x),(6,.b),(12,.v),(13,J),(14,J)]
def o5:=O 14950
def B5 (P:PT) (N2:Y k1):Y k3:=fun x1 x3 x6 x12 x13 x14 H=>
  pif (!x6) (B4 P N2 H) (B3 P N2 x1 x3 x12 x13 x14 H)
theorem q5 P N2:Q o5 (cnd 27 (E k2 (B4 P N2)) (E k1 (B3 P N2))) k3 (B5 P N2):=fun _ _ _ _ _ _ _ _=>by kernel_rfl
abbrev k4:Sk:=[(1,.x),(3,.x),(4,J),(5,.x),(12,.v),(13,J),(14,J)]
def o6:=O 7474
def B6 (P:PT) (N2:Y k1):Y k4:=fun x1 x3 x4 x5 x12 x13 x14 H=>
  ldI .i64 H x1 0 (fun v1=>ld1 H x1 1 (fun v2=>ld1 H x5 0 (fun v3=>AC Tryz.prog T0 73 [(Value.agg ⟨[(Value.int .i64 v1),v2]⟩),v3,(Value.bool ((x4:Int)==0)),(Value.func (.func 74) ⟨[]⟩ ⟨[(Value.pointer (some ⟨x5,0,none⟩)),(Value.pointer (some ⟨x3,0,none⟩))]⟩)] H (fun v4 H5=>AC Tryz.prog T0 75 [v4] H5 (fun v7 H8=>asB v7 (fun v9=>B5 P N2 x1 x3 v9 x12 x13 x14 H8))))))
theorem q6 P N2:Q o6 (E k3 (B5 P N2)) k4 (B6 P N2):=fun _ _ _ _ _ _ _ _ _=>by kernel_rfl
def o7:=O 3736
def B7 (P:PT) (N2:Y k1):Y k1:=fun x1 x3 x12 x13 x14 H=>
  idxK x12 x14 1 (fun b1 o2=>ld1 H b1 o2 (fun v3=>newK H [(Value.slice none 0 0)] 30 (fun b4 H5=>pif (Value.oneCell' v3) (stK H5 b4 0 [v3] (fun H6=>B6 P N2 x1 x3 x14 b4 x12 x13 x14 H6)) False)))
theorem q7 P N2:Q o7 (E k4 (B6 P N2)) k1 (B7 P N2):=fun _ _ _ _ _ _ _=>by kernel_rfl
def o8:=O 232
def B8 (P:PT) (N2:Y k1):Y k1:=fun x1 x3 x12 x13 x14 H=>
  pif (decide ((x14:Int)<x13)) (B7 P N2 x1 x3 x12 x13 x14 H) (B1 P x3 H)
theorem q8 P N2:Q o8 (cnd 15 (E k1 (B7 P N2)) (E k0 (B1 P))) k1 (B8 P N2):=fun _ _ _ _ _ _ _=>by kernel_rfl
def L2 (P:PT):Y k1:=fun x1 x3 x12 x13 x14 H=>
  ∃ (I:Y k1) (μ:NTy k1 (AHeap→Nat)),I x1 x3 x12 x13 x14 H∧∀ y1 y3 y12 y13 y14 G,I y1 y3 y12 y13 y14 G→B8 P (fun z1 z3 z12 z13 z14 G'=>I z1 z3 z12 z13 z14 G'∧μ z1 z3 z12 z13 z14 G'<μ y1 y3 y12 y13 y14 G) y1 y3 y12 y13 y14 G
theorem l2 P:LQ k1 (L2 P) (B8 P):=fun ⟨_,_,_,_,_,_⟩ _ ⟨I,μ,h0,hI⟩=>⟨apT _ I,apT _ μ,h0,fun ⟨_,_,_,_,_,_⟩ _ h=>hI _ _ _ _ _ _  h⟩
abbrev k5:Sk:=[(1,.x),(3,.x)]
def o9:=O 28
def B9 (P:PT):Y k5:=fun x1 x3 H=>
  ldI .i64 H x1 0 (fun v1=>ld1 H x1 1 (fun v2=>AC Tryz.prog T0 72 [(Value.agg ⟨[(Value.int .i64 v1),v2]⟩)] H (fun v3 H4=>lenK v3 (fun n6=>L2 P x1 x3 v3 (n6:Int) 0 H4))))
theorem q9 P:Q o9 (E k1 (L2 P)) k5 (B9 P):=fun _ _ _ _=>by kernel_rfl
abbrev k6:Sk:=[(1,.x)]
def o10:=O 6
def B10 (P:PT):Y k6:=fun x1 H=>
  ld1 H x1 1 (fun v1=>lenK v1 (fun n2=>mkR H 8 2 [(Value.int .i64 0)] (n2:Int) (n2:Int) (fun v4 H3=>newK H3 [(Value.slice none 0 0)] 30 (fun b5 H6=>pif (Value.oneCell' v4) (stK H6 b5 0 [v4] (fun H7=>B9 P x1 b5 H7)) False))))
theorem q10 P:Q o10 (E k5 (B9 P)) k6 (B10 P):=fun _ _ _=>by kernel_rfl
abbrev k7:Sk:=[(0,.g [.i,.v])]
def o11:=O 2
def B11 (P:PT):Y k7:=fun x0a x0b H=>
  newK H [(Value.int .i64 x0a),x0b] 26 (fun b1 H2=>B10 P b1 H2)
theorem q11 P:Q o11 (E k6 (B10 P)) k7 (B11 P):=fun _ _ _ _=>by kernel_rfl
def code:Code:=(.seq (R 0 o11) (.seq (R 1 o10) (.seq (.seq (R 2 o9) (.block 0 (.loop (.seq (R 3 o8) (.seq (.cond (.tmp 15) .skip (.exit 0)) (.seq (.block 1 (.seq (R 4 o7) (.seq (R 5 o6) (.seq (R 6 o5) (.cond (.tmp 27) (.seq (R 7 o4) .ret) .skip))))) (R 8 o3))))))) (.seq (R 9 o1) .ret))))
theorem body:Tryz.f46.body=some code:=by kernel_rfl
theorem main (P:PT):∀ env H,(En 30 k7 (B11 P)) env H→AW Tryz.prog T0 code env H (M (ret P)):=
  (r_seq (b (q11 P)) (r_seq (b (q10 P)) (r_seq (r_seq (b (q9 P)) (r_block (rL (l2 P) (fun N2=>(r_seq (b (q8 P N2)) (r_seq (r_cond rfl r_skip (r_exit (fun _ _ h=>h))) (r_seq (r_block (r_seq (b (q7 P N2)) (r_seq (b (q6 P N2)) (r_seq (b (q5 P N2)) (r_cond rfl (r_seq (b (q4 P N2)) r_ret) r_skip))))) (b (q3 P N2))))))))) (r_seq (b (q1 P)) r_ret))))
theorem ac (P:PT) (x0a:Int) (x0b:Value) (H:AHeap) (h:B11 P x0a x0b H):AC Tryz.prog T0 46 [(Value.agg ⟨[(Value.int .i64 x0a),x0b]⟩)] H P:=
  r_fn T0_ok (c:=code) (n:=30) Tryz.func46 body (by kernel_rfl) (main P) (En_mk (x0a,x0b,()) (by kernel_rfl) ⟨by kernel_rfl,trivial⟩ h)

end F46
namespace F47
abbrev E:=En 63
abbrev Q:=QB Tryz.prog T0 63
def O (k:Nat):=ob Tryz.f47 (pth k)
def ret (P:PT):EP:=retE T0 63 Tryz.f47 P
abbrev k0:Sk:=[]
def o1:=O 62
def B1 (P:PT):Y k0:=fun H=>
  P (Value.bool true) H
theorem q1 P:Q o1 (ret P) k0 (B1 P):=fun _ _=>by kernel_rfl
abbrev k1:Sk:=[(1,.v),(5,.v),(30,.v),(31,J),(32,J)]
def o3:=O 1959
def B3 (P:PT) (N2:Y k1):Y k1:=fun x1 x5 x30 x31 x32 H=>
  N2 x1 x5 x30 x31 (IntKind.i64.wrap (x32+1)) H
theorem q3 P N2:Q o3 (E k1 N2) k1 (B3 P N2):=fun _ _ _ _ _ _ _=>by kernel_rfl
abbrev k2:Sk:=[(1,.v),(5,.v),(6,J),(30,.v),(31,J),(32,J),(37,.g [.i,.i]),(38,J)]
def o5:=O 501351
def B5 (P:PT) (N2:Y k1) (N4:Y k2):Y k2:=fun x1 x5 x6 x30 x31 x32 x37a x37b x38 H=>
  N4 x1 x5 x6 x30 x31 x32 x37a x37b (IntKind.i64.wrap (x38+1)) H
theorem q5 P N2 N4:Q o5 (E k2 N4) k2 (B5 P N2 N4):=fun _ _ _ _ _ _ _ _ _ _ _=>by kernel_rfl
abbrev k3:Sk:=[(1,.v),(5,.v),(6,J),(9,J),(30,.v),(31,J),(32,J),(37,.g [.i,.i]),(38,J)]
def o6:=O 4010803
def B6 (P:PT) (N2:Y k1) (N4:Y k2):Y k3:=fun x1 x5 x6 x9 x30 x31 x32 x37a x37b x38 H=>
  idxK x5 x9 1 (fun b1 o2=>ldI .u64 H b1 o2 (fun v3=>idxK x1 x6 1 (fun b4 o5=>ldI .i64 H b4 o5 (fun v6=>((0:Int)≤v6)∧(idxK x5 x9 1 (fun b7 o8=>stK H b7 o8 [(Value.int .u64 (IntKind.u64.wrap (BitVec.ofInt 64 v3|||BitVec.ofInt 64 (IntKind.u64.wrap (1*2^(min (Int.toNat v6) 64)))).toNat))] (fun H9=>B5 P N2 N4 x1 x5 x6 x30 x31 x32 x37a x37b x38 H9)))))))
theorem q6 (P:PT) (N2:Y k1) (N4:Y k2):QD Tryz.prog T0 63 o6 [(0,false),(1,false),(2,false),(3,false),(4,false),(5,false),(6,false),(7,false),(8,false),(9,false),(10,false),(11,false)] (En 63 k2 (B5 P N2 N4)) k3 (B6 P N2 N4):=fun _ _ _ _ _ _ _ _ _ _ _ _  => by kernel_rfl
def o7:=O 32086420
def B7 (P:PT) (N2:Y k1) (N4:Y k2):Y k0:=fun H=>
  P (Value.bool false) H
theorem q7 P N2 N4:Q o7 (ret P) k0 (B7 P N2 N4):=fun _ _=>by kernel_rfl
def o8:=O 8021604
def B8 (P:PT) (N2:Y k1) (N4:Y k2):Y k3:=fun x1 x5 x6 x9 x30 x31 x32 x37a x37b x38 H=>
  idxK x5 x9 1 (fun b1 o2=>ldI .u64 H b1 o2 (fun v3=>idxK x1 x6 1 (fun b4 o5=>ldI .i64 H b4 o5 (fun v6=>AC Tryz.prog T0 42 [(Value.int .u64 v3),(Value.int .i64 v6)] H (fun v7 H8=>asB v7 (fun v9=>pif v9 (B7 P N2 N4 H8) (B6 P N2 N4 x1 x5 x6 x9 x30 x31 x32 x37a x37b x38 H8)))))))
theorem q8 (P:PT) (N2:Y k1) (N4:Y k2):QD Tryz.prog T0 63 o8 [(0,false),(1,false),(2,false),(3,false),(4,false),(5,false),(6,false),(7,false),(8,false)] (cnd 49 (En 63 k0 (B7 P N2 N4)) (En 63 k3 (B6 P N2 N4))) k3 (B8 P N2 N4):=fun _ _ _ _ _ _ _ _ _ _ _ _  => by kernel_rfl
def o9:=O 2005400
def B9 (P:PT) (N2:Y k1) (N4:Y k2):Y k2:=fun x1 x5 x6 x30 x31 x32 x37a x37b x38 H=>
  bndK x38 2 (atK [(Value.int .i64 x37a),(Value.int .i64 x37b)] (Int.toNat x38*1) (fun v1=>asI .i64 v1 (fun v2=>B8 P N2 N4 x1 x5 x6 v2 x30 x31 x32 x37a x37b x38 H)))
theorem q9 P N2 N4:Q o9 (E k3 (B8 P N2 N4)) k2 (B9 P N2 N4):=fun _ _ _ _ _ _ _ _ _ _ _=>by kernel_rfl
def o10:=O 125336
def B10 (P:PT) (N2:Y k1) (N4:Y k2):Y k2:=fun x1 x5 x6 x30 x31 x32 x37a x37b x38 H=>
  pif (decide ((x38:Int)<2)) (B9 P N2 N4 x1 x5 x6 x30 x31 x32 x37a x37b x38 H) (B3 P N2 x1 x5 x30 x31 x32 H)
theorem q10 P N2 N4:Q o10 (cnd 39 (E k2 (B9 P N2 N4)) (E k1 (B3 P N2))) k2 (B10 P N2 N4):=fun _ _ _ _ _ _ _ _ _ _ _=>by kernel_rfl
def L4 (P:PT) (N2:Y k1):Y k2:=fun x1 x5 x6 x30 x31 x32 x37a x37b x38 H=>
  ∃ (I:Y k2) (μ:NTy k2 (AHeap→Nat)),I x1 x5 x6 x30 x31 x32 x37a x37b x38 H∧∀ y1 y5 y6 y30 y31 y32 y37a y37b y38 G,I y1 y5 y6 y30 y31 y32 y37a y37b y38 G→B10 P N2 (fun z1 z5 z6 z30 z31 z32 z37a z37b z38 G'=>I z1 z5 z6 z30 z31 z32 z37a z37b z38 G'∧μ z1 z5 z6 z30 z31 z32 z37a z37b z38 G'<μ y1 y5 y6 y30 y31 y32 y37a y37b y38 G) y1 y5 y6 y30 y31 y32 y37a y37b y38 G
theorem l4 P N2:LQ k2 (L4 P N2) (B10 P N2):=fun ⟨_,_,_,_,_,_,_,_,_,_⟩ _ ⟨I,μ,h0,hI⟩=>⟨apT _ I,apT _ μ,h0,fun ⟨_,_,_,_,_,_,_,_,_,_⟩ _ h=>hI _ _ _ _ _ _ _ _ _ _  h⟩
abbrev k4:Sk:=[(1,.v),(5,.v),(6,J),(7,.x),(30,.v),(31,J),(32,J)]
def o11:=O 15666
def B11 (P:PT) (N2:Y k1):Y k4:=fun x1 x5 x6 x7 x30 x31 x32 H=>
  ldI .i64 H x7 0 (fun v1=>ldI .i64 H x7 1 (fun v2=>L4 P N2 x1 x5 x6 x30 x31 x32 v1 v2 0 H))
theorem q11 P N2:Q o11 (E k2 (L4 P N2)) k4 (B11 P N2):=fun _ _ _ _ _ _ _ _ _=>by kernel_rfl
def o12:=O 7832
def B12 (P:PT) (N2:Y k1):Y k1:=fun x1 x5 x30 x31 x32 H=>
  idxK x30 x32 2 (fun b1 o2=>ldI .i64 H b1 o2 (fun v3=>ldI .i64 H b1 (o2+1) (fun v4=>newK H [(Value.int .i64 0),(Value.int .i64 0)] 84 (fun b5 H6=>stK H6 b5 0 [(Value.int .i64 v3),(Value.int .i64 v4)] (fun H7=>B11 P N2 x1 x5 x32 b5 x30 x31 x32 H7)))))
theorem q12 P N2:Q o12 (E k4 (B11 P N2)) k1 (B12 P N2):=fun _ _ _ _ _ _ _=>by kernel_rfl
def o13:=O 488
def B13 (P:PT) (N2:Y k1):Y k1:=fun x1 x5 x30 x31 x32 H=>
  pif (decide ((x32:Int)<x31)) (B12 P N2 x1 x5 x30 x31 x32 H) (B1 P H)
theorem q13 P N2:Q o13 (cnd 33 (E k1 (B12 P N2)) (E k0 (B1 P))) k1 (B13 P N2):=fun _ _ _ _ _ _ _=>by kernel_rfl
def L2 (P:PT):Y k1:=fun x1 x5 x30 x31 x32 H=>
  ∃ (I:Y k1) (μ:NTy k1 (AHeap→Nat)),I x1 x5 x30 x31 x32 H∧∀ y1 y5 y30 y31 y32 G,I y1 y5 y30 y31 y32 G→B13 P (fun z1 z5 z30 z31 z32 G'=>I z1 z5 z30 z31 z32 G'∧μ z1 z5 z30 z31 z32 G'<μ y1 y5 y30 y31 y32 G) y1 y5 y30 y31 y32 G
theorem l2 P:LQ k1 (L2 P) (B13 P):=fun ⟨_,_,_,_,_,_⟩ _ ⟨I,μ,h0,hI⟩=>⟨apT _ I,apT _ μ,h0,fun ⟨_,_,_,_,_,_⟩ _ h=>hI _ _ _ _ _ _  h⟩
abbrev k5:Sk:=[(1,.v),(2,.x),(5,.v)]
def o14:=O 60
def B14 (P:PT):Y k5:=fun x1 x2 x5 H=>
  ld1 H x2 1 (fun v1=>lenK v1 (fun n2=>L2 P x1 x5 v1 (n2:Int) 0 H))
theorem q14 P:Q o14 (E k1 (L2 P)) k5 (B14 P):=fun _ _ _ _ _=>by kernel_rfl
abbrev k6:Sk:=[(1,.v),(2,.x)]
def o15:=O 14
def B15 (P:PT):Y k6:=fun x1 x2 H=>
  ldI .i64 H x2 0 (fun v1=>mkR H 8 45 [(Value.int .u64 0)] v1 v1 (fun v3 H2=>B14 P x1 x2 v3 H2))
theorem q15 P:Q o15 (E k5 (B14 P)) k6 (B15 P):=fun _ _ _ _=>by kernel_rfl
def o16:=O 52
def B16 (P:PT):Y k0:=fun H=>
  P (Value.bool false) H
theorem q16 P:Q o16 (ret P) k0 (B16 P):=fun _ _=>by kernel_rfl
def o17:=O 12
def B17 (P:PT):Y k6:=fun x1 x2 H=>
  ldI .i64 H x2 0 (fun v1=>ld1 H x2 1 (fun v2=>AC Tryz.prog T0 50 [(Value.agg ⟨[(Value.int .i64 v1),v2]⟩)] H (fun v3 H4=>asB v3 (fun v5=>pif (!v5) (B16 P H4) (lenK x1 (fun n6=>ld1 H4 x2 1 (fun v7=>lenK v7 (fun n8=>pif (((n6:Int):Int) != (n8:Int)) (B16 P H4) (AC Tryz.prog T0 76 [x1,(Value.func (.func 77) ⟨[]⟩ ⟨[]⟩)] H4 (fun v9 H10=>asB v9 (fun v11=>pif (!v11) (B16 P H10) (B15 P x1 x2 H10))))))))))))
theorem q17 P:Q o17 (cnd 25 (E k0 (B16 P)) (E k6 (B15 P))) k6 (B17 P):=fun _ _ _ _=>by kernel_rfl
abbrev k7:Sk:=[(0,.g [.i,.v]),(1,.v)]
def o18:=O 2
def B18 (P:PT):Y k7:=fun x0a x0b x1 H=>
  newK H [(Value.int .i64 x0a),x0b] 26 (fun b1 H2=>B17 P x1 b1 H2)
theorem q18 P:Q o18 (E k6 (B17 P)) k7 (B18 P):=fun _ _ _ _ _=>by kernel_rfl
def code:Code:=(.seq (R 0 o18) (.seq (.seq (R 1 o17) (.cond (.tmp 25) (.seq (R 2 o16) .ret) .skip)) (.seq (R 3 o15) (.seq (.seq (R 4 o14) (.block 0 (.loop (.seq (R 5 o13) (.seq (.cond (.tmp 33) .skip (.exit 0)) (.seq (.block 1 (.seq (R 6 o12) (.seq (R 7 o11) (.block 2 (.loop (.seq (R 8 o10) (.seq (.cond (.tmp 39) .skip (.exit 2)) (.seq (.block 3 (.seq (R 9 o9) (.seq (.seq (.region 10 ⟨o8⟩ true) (.cond (.tmp 49) (.seq (R 11 o7) .ret) .skip)) (.region 12 ⟨o6⟩ true)))) (R 13 o5))))))))) (R 14 o3))))))) (.seq (R 15 o1) .ret)))))
theorem body:Tryz.f47.body=some code:=by kernel_rfl
theorem main (P:PT):∀ env H,(En 63 k7 (B18 P)) env H→AW Tryz.prog T0 code env H (M (ret P)):=
  (r_seq (b (q18 P)) (r_seq (r_seq (b (q17 P)) (r_cond rfl (r_seq (b (q16 P)) r_ret) r_skip)) (r_seq (b (q15 P)) (r_seq (r_seq (b (q14 P)) (r_block (rL (l2 P) (fun N2=>(r_seq (b (q13 P N2)) (r_seq (r_cond rfl r_skip (r_exit (fun _ _ h=>h))) (r_seq (r_block (r_seq (b (q12 P N2)) (r_seq (b (q11 P N2)) (r_block (rL (l4 P N2) (fun N4=>(r_seq (b (q10 P N2 N4)) (r_seq (r_cond rfl r_skip (r_exit (fun _ _ h=>h))) (r_seq (r_block (r_seq (b (q9 P N2 N4)) (r_seq (r_seq (rD T0_ok mixed [(0,false),(1,false),(2,false),(3,false),(4,false),(5,false),(6,false),(7,false),(8,false)] (by kernel_rfl) (q8 P N2 N4)) (r_cond rfl (r_seq (b (q7 P N2 N4)) r_ret) r_skip)) (rD T0_ok mixed [(0,false),(1,false),(2,false),(3,false),(4,false),(5,false),(6,false),(7,false),(8,false),(9,false),(10,false),(11,false)] (by kernel_rfl) (q6 P N2 N4))))) (b (q5 P N2 N4))))))))))) (b (q3 P N2))))))))) (r_seq (b (q1 P)) r_ret)))))
theorem ac (P:PT) (x0a:Int) (x0b x1:Value) (H:AHeap) (h:B18 P x0a x0b x1 H):AC Tryz.prog T0 47 [(Value.agg ⟨[(Value.int .i64 x0a),x0b]⟩),x1] H P:=
  r_fn T0_ok (c:=code) (n:=63) Tryz.func47 body (by kernel_rfl) (main P) (En_mk (x0a,x0b,x1,()) (by kernel_rfl) ⟨by kernel_rfl,by kernel_rfl,trivial⟩ h)

end F47
end
end Go.Proofs
