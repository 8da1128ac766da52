import Derived.Test.YtngacbdogjmpaaaGreatDoorX32S
set_option linter.unusedVariables false
set_option maxRecDepth 100000
namespace Go.Proofs
open Go.Abs
open Value IntKind
noncomputable section
namespace F4
abbrev E:=En 297
def O (k:Nat):=ob Tryz.f4 (pth k)
abbrev R (i k:Nat):Code:=.region i ⟨O k⟩ false
def ret (P:PT):EP:=retE T0 297 Tryz.f4 P
abbrev k0:Sk:=[(4,J),(8,.v),(9,J),(40,.b),(41,J),(42,J),(43,J)]
def B1 (P:PT):Y k0:=fun x4 x8 x9 x40 x41 x42 x43 H=>
  pif ((x9:Int)==0) (lenK x8 (fun n1=>pif (((n1:Int):Int)==x4) (pif ((x41:Int)==0) (pif (x40==((x4:Int)==0)) (pif ((x43:Int) != 0) (P (bool true) H) (P (bool (decide ((x4:Int)≤x42))) H)) (P (bool false) H)) (P (bool false) H)) (P (bool false) H))) (P (bool false) H)
abbrev k1:Sk:=[(3,.x),(4,J),(8,.v),(9,J),(40,.b),(41,J)]
def o2:=O 8388606
def B2 (P:PT):Y k1:=fun x3 x4 x8 x9 x40 x41 H=>
  li H x3 0 (fun v1=>ld1 H x3 1 (fun v2=>A 16 [(agg ⟨[(I v1),v2]⟩)] H (fun v3 H4=>tup2 v3 (fun v5 v6=>asI .i64 v5 (fun v7=>asI .i64 v6 (fun v8=>B1 P x4 x8 x9 x40 x41 v7 v8 H4))))))
abbrev k2:Sk:=[(3,.x),(4,J),(8,.v),(9,J)]
def B3 (P:PT):Y k2:=fun x3 x4 x8 x9 H=>
  li H x3 0 (fun v1=>ld1 H x3 1 (fun v2=>A 19 [(agg ⟨[(I v1),v2]⟩)] H (fun v3 H4=>tup2 v3 (fun v5 v6=>asB v5 (fun v7=>asI .i64 v6 (fun v8=>B2 P x3 x4 x8 x9 v7 v8 H4))))))
abbrev k3:Sk:=[(4,J),(5,J),(9,J)]
def B4 (P:PT):Y k3:=fun x4 x5 x9 H=>
  pif ((x4:Int)==0) (P (bool ((x9:Int)==x5)) H) (P (bool false) H)
abbrev k4:Sk:=[(3,.x),(4,J),(5,J),(8,.v),(9,J)]
def B5 (P:PT):Y k4:=fun x3 x4 x5 x8 x9 H=>
  pif ((x5:Int) != 0) (B4 P x4 x5 x9 H) (B3 P x3 x4 x8 x9 H)
abbrev k5:Sk:=[]
def B6 (P:PT):Y k5:=fun H=>
  P (bool false) H
abbrev k6:Sk:=[(3,.x),(4,J),(5,J),(8,.v),(9,J),(13,J),(14,J),(16,J),(38,.b),(39,J)]
def B7 (P:PT):Y k6:=fun x3 x4 x5 x8 x9 x13 x14 x16 x38 x39 H=>
  pif ((x39:Int) != 0) (B6 P H) (pif ((x13:Int)==3) (pif ((x14:Int)==1) (pif (!(x38==((x16:Int)==0))) (B6 P H) (pif x38 (pif (decide ((x13:Int)≥(i64.wrap (3*x14)))) (pif ((x16:Int) != 0) (B6 P H) (B5 P x3 x4 x5 x8 x9 H)) (B5 P x3 x4 x5 x8 x9 H)) (B5 P x3 x4 x5 x8 x9 H))) (pif x38 (pif (decide ((x13:Int)≥(i64.wrap (3*x14)))) (pif ((x16:Int) != 0) (B6 P H) (B5 P x3 x4 x5 x8 x9 H)) (B5 P x3 x4 x5 x8 x9 H)) (B5 P x3 x4 x5 x8 x9 H))) (pif x38 (pif (decide ((x13:Int)≥(i64.wrap (3*x14)))) (pif ((x16:Int) != 0) (B6 P H) (B5 P x3 x4 x5 x8 x9 H)) (B5 P x3 x4 x5 x8 x9 H)) (B5 P x3 x4 x5 x8 x9 H)))
abbrev k7:Sk:=[(3,.x),(4,J),(5,J),(8,.v),(9,J),(12,.x),(13,J),(14,J),(16,J)]
def B8 (P:PT):Y k7:=fun x3 x4 x5 x8 x9 x12 x13 x14 x16 H=>
  li H x12 0 (fun v1=>ld1 H x12 1 (fun v2=>A 19 [(agg ⟨[(I v1),v2]⟩)] H (fun v3 H4=>tup2 v3 (fun v5 v6=>asB v5 (fun v7=>asI .i64 v6 (fun v8=>B7 P x3 x4 x5 x8 x9 x13 x14 x16 v7 v8 H4))))))
def B9 (P:PT):Y k7:=fun x3 x4 x5 x8 x9 x12 x13 x14 x16 H=>
  pif ((x16:Int)==0) (B8 P x3 x4 x5 x8 x9 x12 x13 x14 x16 H) (pif ((x16:Int)==4) (B8 P x3 x4 x5 x8 x9 x12 x13 x14 x16 H) (B5 P x3 x4 x5 x8 x9 H))
def B10 (P:PT):Y k5:=fun H=>
  P (bool false) H
abbrev k8:Sk:=[(3,.x),(4,J),(5,J),(8,.v),(9,J),(12,.x),(13,J),(14,J),(15,.v),(16,J),(36,.b),(37,J)]
def B11 (P:PT):Y k8:=fun x3 x4 x5 x8 x9 x12 x13 x14 x15 x16 x36 x37 H=>
  pif ((x37:Int) != 0) (B10 P H) (pif (!x36) (B10 P H) (idxK x15 0 1 (fun b1 o2=>li H b1 o2 (fun v3=>pif ((v3:Int) != 0) (B10 P H) (B9 P x3 x4 x5 x8 x9 x12 x13 x14 x16 H)))))
abbrev k9:Sk:=[(3,.x),(4,J),(5,J),(8,.v),(9,J),(12,.x),(13,J),(14,J),(15,.v),(16,J)]
def B12 (P:PT):Y k9:=fun x3 x4 x5 x8 x9 x12 x13 x14 x15 x16 H=>
  li H x12 0 (fun v1=>ld1 H x12 1 (fun v2=>A 29 [(agg ⟨[(I v1),v2]⟩),(I x13),(I x14),x15] H (fun v3 H4=>tup2 v3 (fun v5 v6=>asB v5 (fun v7=>asI .i64 v6 (fun v8=>B11 P x3 x4 x5 x8 x9 x12 x13 x14 x15 x16 v7 v8 H4))))))
def B13 (P:PT):Y k9:=fun x3 x4 x5 x8 x9 x12 x13 x14 x15 x16 H=>
  pif ((x16:Int)==0) (B12 P x3 x4 x5 x8 x9 x12 x13 x14 x15 x16 H) (B9 P x3 x4 x5 x8 x9 x12 x13 x14 x16 H)
def B14 (P:PT):Y k5:=fun H=>
  P (bool false) H
abbrev k10:Sk:=[(3,.x),(4,J),(5,J),(8,.v),(9,J),(12,.x),(13,J),(14,J),(15,.v),(16,J),(30,.b),(34,.b),(35,J)]
def B15 (P:PT):Y k10:=fun x3 x4 x5 x8 x9 x12 x13 x14 x15 x16 x30 x34 x35 H=>
  pif ((x35:Int) != 0) (B14 P H) (pif (!(x34==x30)) (B14 P H) (B13 P x3 x4 x5 x8 x9 x12 x13 x14 x15 x16 H))
abbrev k11:Sk:=[(3,.x),(4,J),(5,J),(8,.v),(9,J),(12,.x),(13,J),(14,J),(15,.v),(16,J),(27,.x),(28,J),(29,J),(30,.b)]
def B16 (P:PT):Y k11:=fun x3 x4 x5 x8 x9 x12 x13 x14 x15 x16 x27 x28 x29 x30 H=>
  li H x27 0 (fun v1=>ld1 H x27 1 (fun v2=>A 32 [(agg ⟨[(I v1),v2]⟩),(I x29),(I x28)] H (fun v3 H4=>tup2 v3 (fun v5 v6=>asB v5 (fun v7=>asI .i64 v6 (fun v8=>B15 P x3 x4 x5 x8 x9 x12 x13 x14 x15 x16 x30 v7 v8 H4))))))
abbrev k12:Sk:=[(3,.x),(4,J),(5,J),(8,.v),(9,J),(12,.x),(13,J),(14,J),(15,.v),(16,J),(27,.x),(28,J),(29,J),(30,.b),(31,J)]
def B17 (P:PT):Y k12:=fun x3 x4 x5 x8 x9 x12 x13 x14 x15 x16 x27 x28 x29 x30 x31 H=>
  pif ((x31:Int)==0) (B16 P x3 x4 x5 x8 x9 x12 x13 x14 x15 x16 x27 x28 x29 x30 H) (B13 P x3 x4 x5 x8 x9 x12 x13 x14 x15 x16 H)
def B18 (P:PT):Y k5:=fun H=>
  P (bool false) H
abbrev k13:Sk:=[(3,.x),(4,J),(5,J),(8,.v),(9,J),(12,.x),(13,J),(14,J),(15,.v),(16,J),(27,.x),(28,J),(29,J),(30,.b),(31,J),(32,.b),(33,J)]
def B19 (P:PT):Y k13:=fun x3 x4 x5 x8 x9 x12 x13 x14 x15 x16 x27 x28 x29 x30 x31 x32 x33 H=>
  pif ((x31:Int) != x33) (B18 P H) (pif (!(x30==x32)) (B18 P H) (B17 P x3 x4 x5 x8 x9 x12 x13 x14 x15 x16 x27 x28 x29 x30 x31 H))
def B20 (P:PT):Y k12:=fun x3 x4 x5 x8 x9 x12 x13 x14 x15 x16 x27 x28 x29 x30 x31 H=>
  li H x27 0 (fun v1=>ld1 H x27 1 (fun v2=>A 33 [(agg ⟨[(I v1),v2]⟩),(I x28),(I x29)] H (fun v3 H4=>tup2 v3 (fun v5 v6=>asB v5 (fun v7=>asI .i64 v6 (fun v8=>B19 P x3 x4 x5 x8 x9 x12 x13 x14 x15 x16 x27 x28 x29 x30 x31 v7 v8 H4))))))
abbrev k14:Sk:=[(3,.x),(4,J),(5,J),(8,.v),(9,J),(12,.x),(13,J),(14,J),(15,.v),(16,J),(27,.x),(28,J),(29,J)]
def B21 (P:PT):Y k14:=fun x3 x4 x5 x8 x9 x12 x13 x14 x15 x16 x27 x28 x29 H=>
  li H x27 0 (fun v1=>ld1 H x27 1 (fun v2=>A 32 [(agg ⟨[(I v1),v2]⟩),(I x28),(I x29)] H (fun v3 H4=>tup2 v3 (fun v5 v6=>asB v5 (fun v7=>asI .i64 v6 (fun v8=>B20 P x3 x4 x5 x8 x9 x12 x13 x14 x15 x16 x27 x28 x29 v7 v8 H4))))))
abbrev k15:Sk:=[(0,.v),(3,.x),(4,J),(5,J),(8,.v),(9,J),(12,.x),(13,J),(14,J),(15,.v),(16,J)]
def B22 (P:PT):Y k15:=fun x0 x3 x4 x5 x8 x9 x12 x13 x14 x15 x16 H=>
  A 31 [x0] H (fun v1 H2=>tup3 v1 (fun v3 v4 v5=>agg2 v3 (fun v6 v7=>asI .i64 v6 (fun v8=>asI .i64 v4 (fun v10=>asI .i64 v5 (fun v11=>newK H2 [(I 0),(slice none 0 0)] 31 (fun b12 H13=>stK H13 b12 0 [(I v8),v7] (fun H14=>B21 P x3 x4 x5 x8 x9 x12 x13 x14 x15 x16 b12 v10 v11 H14))))))))
def B23 (P:PT):Y k5:=fun H=>
  P (bool false) H
abbrev k16:Sk:=[(0,.v),(3,.x),(4,J),(5,J),(8,.v),(9,J),(12,.x),(13,J),(14,J),(15,.v),(16,J),(23,.b),(24,J),(25,.b),(26,J)]
def B24 (P:PT):Y k16:=fun x0 x3 x4 x5 x8 x9 x12 x13 x14 x15 x16 x23 x24 x25 x26 H=>
  pif ((x24:Int) != x26) (B23 P H) (pif (!(x23==x25)) (B23 P H) (B22 P x0 x3 x4 x5 x8 x9 x12 x13 x14 x15 x16 H))
abbrev k17:Sk:=[(0,.v),(3,.x),(4,J),(5,J),(8,.v),(9,J),(12,.x),(13,J),(14,J),(15,.v),(16,J),(19,.x),(20,J),(21,J),(22,.v),(23,.b),(24,J)]
def B25 (P:PT):Y k17:=fun x0 x3 x4 x5 x8 x9 x12 x13 x14 x15 x16 x19 x20 x21 x22 x23 x24 H=>
  li H x19 0 (fun v1=>ld1 H x19 1 (fun v2=>A 30 [(agg ⟨[(I v1),v2]⟩),(I x20),(I x21),x22] H (fun v3 H4=>tup2 v3 (fun v5 v6=>asB v5 (fun v7=>asI .i64 v6 (fun v8=>B24 P x0 x3 x4 x5 x8 x9 x12 x13 x14 x15 x16 x23 x24 v7 v8 H4))))))
abbrev k18:Sk:=[(0,.v),(3,.x),(4,J),(5,J),(8,.v),(9,J),(12,.x),(13,J),(14,J),(15,.v),(16,J),(19,.x),(20,J),(21,J),(22,.v)]
def B26 (P:PT):Y k18:=fun x0 x3 x4 x5 x8 x9 x12 x13 x14 x15 x16 x19 x20 x21 x22 H=>
  li H x19 0 (fun v1=>ld1 H x19 1 (fun v2=>A 29 [(agg ⟨[(I v1),v2]⟩),(I x20),(I x21),x22] H (fun v3 H4=>tup2 v3 (fun v5 v6=>asB v5 (fun v7=>asI .i64 v6 (fun v8=>B25 P x0 x3 x4 x5 x8 x9 x12 x13 x14 x15 x16 x19 x20 x21 x22 v7 v8 H4))))))
def B27 (P:PT):Y k15:=fun x0 x3 x4 x5 x8 x9 x12 x13 x14 x15 x16 H=>
  A 28 [x0] H (fun v1 H2=>tup4 v1 (fun v3 v4 v5 v6=>agg2 v3 (fun v7 v8=>asI .i64 v7 (fun v9=>asI .i64 v4 (fun v11=>asI .i64 v5 (fun v12=>newK H2 [(I 0),(slice none 0 0)] 31 (fun b14 H15=>stK H15 b14 0 [(I v9),v8] (fun H16=>B26 P x0 x3 x4 x5 x8 x9 x12 x13 x14 x15 x16 b14 v11 v12 v6 H16))))))))
def B28 (P:PT):Y k5:=fun H=>
  P (bool false) H
abbrev k19:Sk:=[(0,.v),(3,.x),(4,J),(5,J),(8,.v),(9,J),(12,.x),(13,J),(14,J),(15,.v),(16,J),(17,.v),(18,J)]
def B29 (P:PT):Y k19:=fun x0 x3 x4 x5 x8 x9 x12 x13 x14 x15 x16 x17 x18 H=>
  pif ((x16:Int) != x18) (B28 P H) (A 24 [x15,x17] H (fun v1 H2=>asB v1 (fun v3=>pif (!v3) (B28 P H2) (B27 P x0 x3 x4 x5 x8 x9 x12 x13 x14 x15 x16 H2))))
def B30 (P:PT):Y k15:=fun x0 x3 x4 x5 x8 x9 x12 x13 x14 x15 x16 H=>
  li H x12 0 (fun v1=>ld1 H x12 1 (fun v2=>A 27 [(agg ⟨[(I v1),v2]⟩),(I x13),(I x14)] H (fun v3 H4=>tup2 v3 (fun v5 v6=>asI .i64 v6 (fun v8=>B29 P x0 x3 x4 x5 x8 x9 x12 x13 x14 x15 x16 v5 v8 H4)))))
abbrev k20:Sk:=[(0,.v),(3,.x),(4,J),(5,J),(8,.v),(9,J),(12,.x),(13,J),(14,J)]
def B31 (P:PT):Y k20:=fun x0 x3 x4 x5 x8 x9 x12 x13 x14 H=>
  li H x12 0 (fun v1=>ld1 H x12 1 (fun v2=>A 26 [(agg ⟨[(I v1),v2]⟩),(I x13),(I x14)] H (fun v3 H4=>tup2 v3 (fun v5 v6=>asI .i64 v6 (fun v8=>B30 P x0 x3 x4 x5 x8 x9 x12 x13 x14 v5 v8 H4)))))
abbrev k21:Sk:=[(0,.v),(3,.x),(4,J),(5,J),(8,.v),(9,J)]
def B32 (P:PT):Y k21:=fun x0 x3 x4 x5 x8 x9 H=>
  A 25 [x0] H (fun v1 H2=>tup3 v1 (fun v3 v4 v5=>agg2 v3 (fun v6 v7=>asI .i64 v6 (fun v8=>asI .i64 v4 (fun v10=>asI .i64 v5 (fun v11=>newK H2 [(I 0),(slice none 0 0)] 31 (fun b12 H13=>stK H13 b12 0 [(I v8),v7] (fun H14=>B31 P x0 x3 x4 x5 x8 x9 b12 v10 v11 H14))))))))
def B33 (P:PT):Y k5:=fun H=>
  P (bool false) H
abbrev k22:Sk:=[(0,.v),(3,.x),(4,J),(5,J),(8,.v),(9,J),(10,.v),(11,J)]
def B34 (P:PT):Y k22:=fun x0 x3 x4 x5 x8 x9 x10 x11 H=>
  pif ((x9:Int) != x11) (B33 P H) (A 24 [x8,x10] H (fun v1 H2=>asB v1 (fun v3=>pif (!v3) (B33 P H2) (B32 P x0 x3 x4 x5 x8 x9 H2))))
def B35 (P:PT):Y k21:=fun x0 x3 x4 x5 x8 x9 H=>
  li H x3 0 (fun v1=>ld1 H x3 1 (fun v2=>A 23 [(agg ⟨[(I v1),v2]⟩)] H (fun v3 H4=>tup2 v3 (fun v5 v6=>asI .i64 v6 (fun v8=>B34 P x0 x3 x4 x5 x8 x9 v5 v8 H4)))))
abbrev k23:Sk:=[(0,.v),(3,.x),(4,J),(5,J)]
def B36 (P:PT):Y k23:=fun x0 x3 x4 x5 H=>
  li H x3 0 (fun v1=>ld1 H x3 1 (fun v2=>A 22 [(agg ⟨[(I v1),v2]⟩)] H (fun v3 H4=>tup2 v3 (fun v5 v6=>asI .i64 v6 (fun v8=>B35 P x0 x3 x4 x5 v5 v8 H4)))))
def B37 (P:PT):Y k5:=fun H=>
  P (bool false) H
abbrev k24:Sk:=[(0,.v),(3,.x),(4,J),(5,J),(6,J),(7,J)]
def B38 (P:PT):Y k24:=fun x0 x3 x4 x5 x6 x7 H=>
  pif ((x5:Int) != x7) (B37 P H) (pif ((x4:Int) != x6) (B37 P H) (B36 P x0 x3 x4 x5 H))
def B39 (P:PT):Y k23:=fun x0 x3 x4 x5 H=>
  li H x3 0 (fun v1=>ld1 H x3 1 (fun v2=>A 21 [(agg ⟨[(I v1),v2]⟩)] H (fun v3 H4=>tup2 v3 (fun v5 v6=>asI .i64 v5 (fun v7=>asI .i64 v6 (fun v8=>B38 P x0 x3 x4 x5 v7 v8 H4))))))
abbrev k25:Sk:=[(0,.v),(3,.x)]
def B40 (P:PT):Y k25:=fun x0 x3 H=>
  li H x3 0 (fun v1=>ld1 H x3 1 (fun v2=>A 17 [(agg ⟨[(I v1),v2]⟩)] H (fun v3 H4=>tup2 v3 (fun v5 v6=>asI .i64 v5 (fun v7=>asI .i64 v6 (fun v8=>B39 P x0 x3 v7 v8 H4))))))
abbrev k26:Sk:=[(0,.v)]
def B41 (P:PT):Y k26:=fun x0 H=>
  A 20 [x0] H (fun v1 H2=>agg2 v1 (fun v3 v4=>asI .i64 v3 (fun v5=>newK H2 [(I 0),(slice none 0 0)] 31 (fun b7 H8=>stK H8 b7 0 [(I v5),v4] (fun H9=>B40 P x0 b7 H9)))))
def B42 (P:PT):Y k5:=fun H=>
  P (bool true) H
def B43 (P:PT):Y k26:=fun x0 H=>
  A 7 [x0] H (fun v1 H2=>asB v1 (fun v3=>pif v3 (B42 P H2) (B41 P x0 H2)))
def B44 (P:PT):Y k26:=fun x0 H=>
  B43 P x0 H
def code:Code:=(.seq (R 0 2) (.seq (.seq (R 1 12) (.cond (.tmp 45) (.seq (R 2 52) .ret) .skip)) (.seq (R 3 14) (.seq (R 4 30) (.seq (.seq (R 5 124) (.seq (R 6 250) (.cond (.tmp 65) (.seq (R 7 1004) .ret) .skip))) (.seq (R 8 126) (.seq (.seq (R 9 508) (.seq (R 10 1018) (.cond (.tmp 84) (.seq (R 11 4076) .ret) .skip))) (.seq (R 12 510) (.seq (R 13 1022) (.seq (.seq (R 14 4092) (.seq (R 15 8186) (.cond (.tmp 113) (.seq (R 16 32748) .ret) .skip))) (.seq (R 17 4094) (.seq (R 18 8190) (.seq (.seq (R 19 32764) (.seq (R 20 65530) (.cond (.tmp 144) (.seq (R 21 262124) .ret) .skip))) (.seq (R 22 32766) (.seq (R 23 65534) (.seq (.seq (R 24 262140) (.seq (R 25 524282) (.cond (.tmp 172) (.seq (R 26 2097132) .ret) .skip))) (.seq (.seq (R 27 524284) (.cond (.tmp 174) (.seq (R 28 2097140) (.seq (R 29 4194282) (.cond (.tmp 188) (.seq (R 30 16777132) .ret) .skip))) .skip)) (.seq (.seq (R 31 1048572) (.cond (.tmp 190) (.seq (R 32 4194292) (.seq (R 33 8388586) (.cond (.tmp 210) (.seq (R 34 33554348) .ret) .skip))) .skip)) (.seq (.seq (R 35 2097148) (.cond (.tmp 216) (.seq (R 36 8388596) (.seq (R 37 16777194) (.cond (.tmp 250) (.seq (R 38 67108780) .ret) .skip))) .skip)) (.seq (.seq (R 39 4194300) (.cond (.tmp 252) (.seq (R 40 16777204) .ret) .skip)) (.seq (R 41 4194302) (.seq (R 42 8388606) (.seq (R 43 16777214) .ret)))))))))))))))))))))))
theorem body:Tryz.f4.body=some code:=by kernel_rfl
theorem main P:Z 297 k26 (B44 P) code (ret P):=
  (r_seq (b (E k26 (B43 P))) (r_seq (r_seq (b (cnd 45 (E k5 (B42 P)) (E k26 (B41 P)))) (r_cond rfl (r_seq (b (ret P)) r_ret) r_skip)) (r_seq (b (E k25 (B40 P))) (r_seq (b (E k23 (B39 P))) (r_seq (r_seq (b (E k24 (B38 P))) (r_seq (b (cnd 65 (E k5 (B37 P)) (E k23 (B36 P)))) (r_cond rfl (r_seq (b (ret P)) r_ret) r_skip))) (r_seq (b (E k21 (B35 P))) (r_seq (r_seq (b (E k22 (B34 P))) (r_seq (b (cnd 84 (E k5 (B33 P)) (E k21 (B32 P)))) (r_cond rfl (r_seq (b (ret P)) r_ret) r_skip))) (r_seq (b (E k20 (B31 P))) (r_seq (b (E k15 (B30 P))) (r_seq (r_seq (b (E k19 (B29 P))) (r_seq (b (cnd 113 (E k5 (B28 P)) (E k15 (B27 P)))) (r_cond rfl (r_seq (b (ret P)) r_ret) r_skip))) (r_seq (b (E k18 (B26 P))) (r_seq (b (E k17 (B25 P))) (r_seq (r_seq (b (E k16 (B24 P))) (r_seq (b (cnd 144 (E k5 (B23 P)) (E k15 (B22 P)))) (r_cond rfl (r_seq (b (ret P)) r_ret) r_skip))) (r_seq (b (E k14 (B21 P))) (r_seq (b (E k12 (B20 P))) (r_seq (r_seq (b (E k13 (B19 P))) (r_seq (b (cnd 172 (E k5 (B18 P)) (E k12 (B17 P)))) (r_cond rfl (r_seq (b (ret P)) r_ret) r_skip))) (r_seq (r_seq (b (cnd 174 (E k11 (B16 P)) (E k9 (B13 P)))) (r_cond rfl (r_seq (b (E k10 (B15 P))) (r_seq (b (cnd 188 (E k5 (B14 P)) (E k9 (B13 P)))) (r_cond rfl (r_seq (b (ret P)) r_ret) r_skip))) r_skip)) (r_seq (r_seq (b (cnd 190 (E k9 (B12 P)) (E k7 (B9 P)))) (r_cond rfl (r_seq (b (E k8 (B11 P))) (r_seq (b (cnd 210 (E k5 (B10 P)) (E k7 (B9 P)))) (r_cond rfl (r_seq (b (ret P)) r_ret) r_skip))) r_skip)) (r_seq (r_seq (b (cnd 216 (E k7 (B8 P)) (E k4 (B5 P)))) (r_cond rfl (r_seq (b (E k6 (B7 P))) (r_seq (b (cnd 250 (E k5 (B6 P)) (E k4 (B5 P)))) (r_cond rfl (r_seq (b (ret P)) r_ret) r_skip))) r_skip)) (r_seq (r_seq (b (cnd 252 (E k3 (B4 P)) (E k2 (B3 P)))) (r_cond rfl (r_seq (b (ret P)) r_ret) r_skip)) (r_seq (b (E k1 (B2 P))) (r_seq (b (E k0 (B1 P))) (r_seq (b (ret P)) r_ret)))))))))))))))))))))))
theorem ac (P:PT) (x0:Value) (H:AHeap) (h:B44 P x0 H):A 4 [x0] H P:=
  r_fn T0_ok (c:=code) (n:=297) Tryz.func4 body (by kernel_rfl) (main P) (En_mk (x0,()) (by kernel_rfl) ⟨by kernel_rfl,trivial⟩ h)

end F4
namespace F7
abbrev E:=En 6
def O (k:Nat):=ob Tryz.f7 (pth k)
abbrev R (i k:Nat):Code:=.region i ⟨O k⟩ false
def ret (P:PT):EP:=retE T0 6 Tryz.f7 P
abbrev k0:Sk:=[(0,.v)]
def B1 (P:PT):Y k0:=fun x0 H=>
  lenK x0 (fun n1=>P (bool (decide (((n1:Int):Int)>4096))) H)
def B2 (P:PT):Y k0:=fun x0 H=>
  B1 P x0 H
def code:Code:=(.seq (R 0 2) (.seq (R 1 6) .ret))
theorem body:Tryz.f7.body=some code:=by kernel_rfl
theorem main P:Z 6 k0 (B2 P) code (ret P):=
  (r_seq (b (E k0 (B1 P))) (r_seq (b (ret P)) r_ret))
theorem ac (P:PT) (x0:Value) (H:AHeap) (h:B2 P x0 H):A 7 [x0] H P:=
  r_fn T0_ok (c:=code) (n:=6) Tryz.func7 body (by kernel_rfl) (main P) (En_mk (x0,()) (by kernel_rfl) ⟨by kernel_rfl,trivial⟩ h)

end F7
namespace F13
abbrev E:=En 25
def O (k:Nat):=ob Tryz.f13 (pth k)
abbrev R (i k:Nat):Code:=.region i ⟨O k⟩ false
def ret (P:PT):EP:=retE T0 25 Tryz.f13 P
abbrev k0:Sk:=[(1,.x)]
def B1 (P:PT):Y k0:=fun x1 H=>
  li H x1 0 (fun v1=>ld1 H x1 1 (fun v2=>A 61 [(I v1),v2] H (fun v3 H4=>asB v3 (fun v5=>pif v5 (ld1 H4 x1 1 (fun v6=>A 62 [v6,(func (.func 63) ⟨[]⟩ ⟨[]⟩)] H4 (fun v7 H8=>asB v7 (fun v9=>pif v9 (ld1 H8 x1 1 (fun v10=>A 64 [v10,(func (.func 65) ⟨[]⟩ ⟨[]⟩)] H8 (fun v11 H12=>asB v11 (fun v13=>pif v13 (li H12 x1 0 (fun v14=>ld1 H12 x1 1 (fun v15=>A 66 [(I v14),v15] H12 (fun v16 H17=>asB v16 (fun v18=>P (bool v18) H17))))) (P (bool false) H12))))) (P (bool false) H8))))) (P (bool false) H4)))))
abbrev k1:Sk:=[(0,.g [.i,.v])]
def B2 (P:PT):Y k1:=fun x0a x0b H=>
  newK H [(I x0a),x0b] 31 (fun b1 H2=>B1 P b1 H2)
def code:Code:=(.seq (R 0 2) (.seq (R 1 6) .ret))
theorem body:Tryz.f13.body=some code:=by kernel_rfl
theorem main P:Z 25 k1 (B2 P) code (ret P):=
  (r_seq (b (E k0 (B1 P))) (r_seq (b (ret P)) r_ret))
theorem ac (P:PT) (x0a:Int) (x0b:Value) (H:AHeap) (h:B2 P x0a x0b H):A 13 [(agg ⟨[(I x0a),x0b]⟩)] H P:=
  r_fn T0_ok (c:=code) (n:=25) Tryz.func13 body (by kernel_rfl) (main P) (En_mk (x0a,x0b,()) (by kernel_rfl) ⟨by kernel_rfl,trivial⟩ h)

end F13
namespace F16
abbrev E:=En 22
def O (k:Nat):=ob Tryz.f16 (pth k)
abbrev R (i k:Nat):Code:=.region i ⟨O k⟩ false
def ret (P:PT):EP:=retE T0 22 Tryz.f16 P
abbrev k0:Sk:=[(6,J)]
def B1 (P:PT):Y k0:=fun x6 H=>
  P (tuple ⟨[(I x6),(I 0)]⟩) H
abbrev k1:Sk:=[]
def B2 (P:PT):Y k1:=fun H=>
  P (tuple ⟨[(I 0),(I 4)]⟩) H
abbrev k2:Sk:=[(6,J),(7,.b)]
def B3 (P:PT):Y k2:=fun x6 x7 H=>
  pif (!x7) (B2 P H) (B1 P x6 H)
abbrev k3:Sk:=[(1,.x)]
def B4 (P:PT):Y k3:=fun x1 H=>
  li H x1 0 (fun v1=>ld1 H x1 1 (fun v2=>A 71 [(agg ⟨[(I v1),v2]⟩)] H (fun v3 H4=>tup3 v3 (fun v5 v6 v7=>asI .u64 v5 (fun v8=>asI .i64 v6 (fun v9=>asB v7 (fun v10=>B3 P v9 v10 H4)))))))
abbrev k4:Sk:=[(4,J)]
def B5 (P:PT):Y k4:=fun x4 H=>
  P (tuple ⟨[(I 0),(I x4)]⟩) H
abbrev k5:Sk:=[(1,.x),(4,J)]
def B6 (P:PT):Y k5:=fun x1 x4 H=>
  pif ((x4:Int) != 0) (B5 P x4 H) (B4 P x1 H)
def B7 (P:PT):Y k3:=fun x1 H=>
  li H x1 0 (fun v1=>ld1 H x1 1 (fun v2=>A 55 [(agg ⟨[(I v1),v2]⟩),(bool true)] H (fun v3 H4=>asI .i64 v3 (fun v5=>B6 P x1 v5 H4))))
abbrev k6:Sk:=[(0,.g [.i,.v])]
def B8 (P:PT):Y k6:=fun x0a x0b H=>
  newK H [(I x0a),x0b] 31 (fun b1 H2=>B7 P b1 H2)
def code:Code:=(.seq (R 0 2) (.seq (.seq (R 1 12) (.seq (R 2 26) (.cond (.tmp 11) (.seq (R 3 108) .ret) .skip))) (.seq (R 4 14) (.seq (.seq (R 5 60) (.cond (.tmp 20) (.seq (R 6 244) .ret) .skip)) (.seq (R 7 62) .ret)))))
theorem body:Tryz.f16.body=some code:=by kernel_rfl
theorem main P:Z 22 k6 (B8 P) code (ret P):=
  (r_seq (b (E k3 (B7 P))) (r_seq (r_seq (b (E k5 (B6 P))) (r_seq (b (cnd 11 (E k4 (B5 P)) (E k3 (B4 P)))) (r_cond rfl (r_seq (b (ret P)) r_ret) r_skip))) (r_seq (b (E k2 (B3 P))) (r_seq (r_seq (b (cnd 20 (E k1 (B2 P)) (E k0 (B1 P)))) (r_cond rfl (r_seq (b (ret P)) r_ret) r_skip)) (r_seq (b (ret P)) r_ret)))))
theorem ac (P:PT) (x0a:Int) (x0b:Value) (H:AHeap) (h:B8 P x0a x0b H):A 16 [(agg ⟨[(I x0a),x0b]⟩)] H P:=
  r_fn T0_ok (c:=code) (n:=22) Tryz.func16 body (by kernel_rfl) (main P) (En_mk (x0a,x0b,()) (by kernel_rfl) ⟨by kernel_rfl,trivial⟩ h)

end F16
namespace F17
abbrev E:=En 13
def O (k:Nat):=ob Tryz.f17 (pth k)
abbrev R (i k:Nat):Code:=.region i ⟨O k⟩ false
def ret (P:PT):EP:=retE T0 13 Tryz.f17 P
abbrev k0:Sk:=[(1,.x)]
def B1 (P:PT):Y k0:=fun x1 H=>
  li H x1 0 (fun v1=>ld1 H x1 1 (fun v2=>A 73 [(agg ⟨[(I v1),v2]⟩)] H (fun v3 H4=>asI .u64 v3 (fun v5=>A 74 [(int .u64 v5)] H4 (fun v6 H7=>asI .i64 v6 (fun v8=>P (tuple ⟨[(I v8),(I 0)]⟩) H7))))))
abbrev k1:Sk:=[(4,J)]
def B2 (P:PT):Y k1:=fun x4 H=>
  P (tuple ⟨[(I 0),(I x4)]⟩) H
abbrev k2:Sk:=[(1,.x),(4,J)]
def B3 (P:PT):Y k2:=fun x1 x4 H=>
  pif ((x4:Int) != 0) (B2 P x4 H) (B1 P x1 H)
def B4 (P:PT):Y k0:=fun x1 H=>
  li H x1 0 (fun v1=>ld1 H x1 1 (fun v2=>A 72 [(agg ⟨[(I v1),v2]⟩),(bool true),(I 12)] H (fun v3 H4=>asI .i64 v3 (fun v5=>B3 P x1 v5 H4))))
abbrev k3:Sk:=[(0,.g [.i,.v])]
def B5 (P:PT):Y k3:=fun x0a x0b H=>
  newK H [(I x0a),x0b] 31 (fun b1 H2=>B4 P b1 H2)
def code:Code:=(.seq (R 0 2) (.seq (.seq (R 1 12) (.seq (R 2 26) (.cond (.tmp 8) (.seq (R 3 108) .ret) .skip))) (.seq (R 4 14) .ret)))
theorem body:Tryz.f17.body=some code:=by kernel_rfl
theorem main P:Z 13 k3 (B5 P) code (ret P):=
  (r_seq (b (E k0 (B4 P))) (r_seq (r_seq (b (E k2 (B3 P))) (r_seq (b (cnd 8 (E k1 (B2 P)) (E k0 (B1 P)))) (r_cond rfl (r_seq (b (ret P)) r_ret) r_skip))) (r_seq (b (ret P)) r_ret)))
theorem ac (P:PT) (x0a:Int) (x0b:Value) (H:AHeap) (h:B5 P x0a x0b H):A 17 [(agg ⟨[(I x0a),x0b]⟩)] H P:=
  r_fn T0_ok (c:=code) (n:=13) Tryz.func17 body (by kernel_rfl) (main P) (En_mk (x0a,x0b,()) (by kernel_rfl) ⟨by kernel_rfl,trivial⟩ h)

end F17
namespace F19
abbrev E:=En 13
def O (k:Nat):=ob Tryz.f19 (pth k)
abbrev R (i k:Nat):Code:=.region i ⟨O k⟩ false
def ret (P:PT):EP:=retE T0 13 Tryz.f19 P
abbrev k0:Sk:=[(1,.x)]
def B1 (P:PT):Y k0:=fun x1 H=>
  li H x1 0 (fun v1=>ld1 H x1 1 (fun v2=>A 76 [(agg ⟨[(I v1),v2]⟩)] H (fun v3 H4=>isNilK v3 (fun v6=>P (tuple ⟨[(bool (!v6)),(I 0)]⟩) H4))))
abbrev k1:Sk:=[(4,J)]
def B2 (P:PT):Y k1:=fun x4 H=>
  P (tuple ⟨[(bool false),(I x4)]⟩) H
abbrev k2:Sk:=[(1,.x),(4,J)]
def B3 (P:PT):Y k2:=fun x1 x4 H=>
  pif ((x4:Int) != 0) (B2 P x4 H) (B1 P x1 H)
def B4 (P:PT):Y k0:=fun x1 H=>
  li H x1 0 (fun v1=>ld1 H x1 1 (fun v2=>A 55 [(agg ⟨[(I v1),v2]⟩),(bool true)] H (fun v3 H4=>asI .i64 v3 (fun v5=>B3 P x1 v5 H4))))
abbrev k3:Sk:=[(0,.g [.i,.v])]
def B5 (P:PT):Y k3:=fun x0a x0b H=>
  newK H [(I x0a),x0b] 31 (fun b1 H2=>B4 P b1 H2)
def code:Code:=(.seq (R 0 2) (.seq (.seq (R 1 12) (.seq (R 2 26) (.cond (.tmp 8) (.seq (R 3 108) .ret) .skip))) (.seq (R 4 14) .ret)))
theorem body:Tryz.f19.body=some code:=by kernel_rfl
theorem main P:Z 13 k3 (B5 P) code (ret P):=
  (r_seq (b (E k0 (B4 P))) (r_seq (r_seq (b (E k2 (B3 P))) (r_seq (b (cnd 8 (E k1 (B2 P)) (E k0 (B1 P)))) (r_cond rfl (r_seq (b (ret P)) r_ret) r_skip))) (r_seq (b (ret P)) r_ret)))
theorem ac (P:PT) (x0a:Int) (x0b:Value) (H:AHeap) (h:B5 P x0a x0b H):A 19 [(agg ⟨[(I x0a),x0b]⟩)] H P:=
  r_fn T0_ok (c:=code) (n:=13) Tryz.func19 body (by kernel_rfl) (main P) (En_mk (x0a,x0b,()) (by kernel_rfl) ⟨by kernel_rfl,trivial⟩ h)

end F19
namespace F20
abbrev E:=En 6
def O (k:Nat):=ob Tryz.f20 (pth k)
abbrev R (i k:Nat):Code:=.region i ⟨O k⟩ false
def ret (P:PT):EP:=retE T0 6 Tryz.f20 P
abbrev k0:Sk:=[(0,.v),(2,.x)]
def B1 (P:PT):Y k0:=fun x0 x2 H=>
  A 78 [x0] H (fun v1 H2=>A 77 [v1] H2 (fun v4 H5=>agg2 v4 (fun v6 v7=>asI .i64 v6 (fun v8=>stK H5 x2 0 [(I v8),v7] (fun H10=>li H10 x2 0 (fun v11=>ld1 H10 x2 1 (fun v12=>P (agg ⟨[(I v11),v12]⟩) H10)))))))
abbrev k1:Sk:=[(0,.v)]
def B2 (P:PT):Y k1:=fun x0 H=>
  newK H [(I 0),(slice none 0 0)] 31 (fun b1 H2=>B1 P x0 b1 H2)
def code:Code:=(.seq (R 0 2) (.seq (R 1 6) .ret))
theorem body:Tryz.f20.body=some code:=by kernel_rfl
theorem main P:Z 6 k1 (B2 P) code (ret P):=
  (r_seq (b (E k0 (B1 P))) (r_seq (b (ret P)) r_ret))
theorem ac (P:PT) (x0:Value) (H:AHeap) (h:B2 P x0 H):A 20 [x0] H P:=
  r_fn T0_ok (c:=code) (n:=6) Tryz.func20 body (by kernel_rfl) (main P) (En_mk (x0,()) (by kernel_rfl) ⟨by kernel_rfl,trivial⟩ h)

end F20
namespace F21
abbrev E:=En 15
def O (k:Nat):=ob Tryz.f21 (pth k)
abbrev R (i k:Nat):Code:=.region i ⟨O k⟩ false
def ret (P:PT):EP:=retE T0 15 Tryz.f21 P
abbrev k0:Sk:=[(1,.x)]
def B1 (P:PT):Y k0:=fun x1 H=>
  li H x1 0 (fun v1=>ld1 H x1 1 (fun v2=>A 79 [(agg ⟨[(I v1),v2]⟩)] H (fun v3 H4=>lenK v3 (fun n6=>P (tuple ⟨[(I (n6:Int)),(I 0)]⟩) H4))))
abbrev k1:Sk:=[]
def B2 (P:PT):Y k1:=fun H=>
  P (tuple ⟨[(I 0),(I 1)]⟩) H
def B3 (P:PT):Y k1:=fun H=>
  P (tuple ⟨[(I 0),(I 3)]⟩) H
def B4 (P:PT):Y k0:=fun x1 H=>
  li H x1 0 (fun v1=>pif (decide ((v1:Int)>12)) (B3 P H) (B1 P x1 H))
def B5 (P:PT):Y k0:=fun x1 H=>
  li H x1 0 (fun v1=>ld1 H x1 1 (fun v2=>A 68 [(agg ⟨[(I v1),v2]⟩)] H (fun v3 H4=>asB v3 (fun v5=>pif (!v5) (B2 P H4) (B4 P x1 H4)))))
abbrev k2:Sk:=[(0,.g [.i,.v])]
def B6 (P:PT):Y k2:=fun x0a x0b H=>
  newK H [(I x0a),x0b] 31 (fun b1 H2=>B5 P b1 H2)
def code:Code:=(.seq (R 0 2) (.seq (.block 0 (.seq (R 1 24) (.cond (.tmp 4) (.seq (R 2 100) .ret) (.seq (R 3 102) (.cond (.tmp 8) (.seq (R 4 412) .ret) .skip))))) (.seq (R 5 14) .ret)))
theorem body:Tryz.f21.body=some code:=by kernel_rfl
theorem main P:Z 15 k2 (B6 P) code (ret P):=
  (r_seq (b (E k0 (B5 P))) (r_seq (r_block (r_seq (b (cnd 4 (E k1 (B2 P)) (E k0 (B4 P)))) (r_cond rfl (r_seq (b (ret P)) r_ret) (r_seq (b (cnd 8 (E k1 (B3 P)) (E k0 (B1 P)))) (r_cond rfl (r_seq (b (ret P)) r_ret) r_skip))))) (r_seq (b (ret P)) r_ret)))
theorem ac (P:PT) (x0a:Int) (x0b:Value) (H:AHeap) (h:B6 P x0a x0b H):A 21 [(agg ⟨[(I x0a),x0b]⟩)] H P:=
  r_fn T0_ok (c:=code) (n:=15) Tryz.func21 body (by kernel_rfl) (main P) (En_mk (x0a,x0b,()) (by kernel_rfl) ⟨by kernel_rfl,trivial⟩ h)

end F21
namespace F22
abbrev E:=En 13
def O (k:Nat):=ob Tryz.f22 (pth k)
abbrev R (i k:Nat):Code:=.region i ⟨O k⟩ false
def ret (P:PT):EP:=retE T0 13 Tryz.f22 P
abbrev k0:Sk:=[(1,.x)]
def B1 (P:PT):Y k0:=fun x1 H=>
  li H x1 0 (fun v1=>ld1 H x1 1 (fun v2=>A 73 [(agg ⟨[(I v1),v2]⟩)] H (fun v3 H4=>asI .u64 v3 (fun v5=>A 80 [(int .u64 v5)] H4 (fun v6 H7=>P (tuple ⟨[v6,(I 0)]⟩) H7)))))
abbrev k1:Sk:=[(4,J)]
def B2 (P:PT):Y k1:=fun x4 H=>
  P (tuple ⟨[(slice none 0 0),(I x4)]⟩) H
abbrev k2:Sk:=[(1,.x),(4,J)]
def B3 (P:PT):Y k2:=fun x1 x4 H=>
  pif ((x4:Int) != 0) (B2 P x4 H) (B1 P x1 H)
def B4 (P:PT):Y k0:=fun x1 H=>
  li H x1 0 (fun v1=>ld1 H x1 1 (fun v2=>A 72 [(agg ⟨[(I v1),v2]⟩),(bool true),(I 12)] H (fun v3 H4=>asI .i64 v3 (fun v5=>B3 P x1 v5 H4))))
abbrev k3:Sk:=[(0,.g [.i,.v])]
def B5 (P:PT):Y k3:=fun x0a x0b H=>
  newK H [(I x0a),x0b] 31 (fun b1 H2=>B4 P b1 H2)
def code:Code:=(.seq (R 0 2) (.seq (.seq (R 1 12) (.seq (R 2 26) (.cond (.tmp 8) (.seq (R 3 108) .ret) .skip))) (.seq (R 4 14) .ret)))
theorem body:Tryz.f22.body=some code:=by kernel_rfl
theorem main P:Z 13 k3 (B5 P) code (ret P):=
  (r_seq (b (E k0 (B4 P))) (r_seq (r_seq (b (E k2 (B3 P))) (r_seq (b (cnd 8 (E k1 (B2 P)) (E k0 (B1 P)))) (r_cond rfl (r_seq (b (ret P)) r_ret) r_skip))) (r_seq (b (ret P)) r_ret)))
theorem ac (P:PT) (x0a:Int) (x0b:Value) (H:AHeap) (h:B5 P x0a x0b H):A 22 [(agg ⟨[(I x0a),x0b]⟩)] H P:=
  r_fn T0_ok (c:=code) (n:=13) Tryz.func22 body (by kernel_rfl) (main P) (En_mk (x0a,x0b,()) (by kernel_rfl) ⟨by kernel_rfl,trivial⟩ h)

end F22
namespace F23
abbrev E:=En 14
def O (k:Nat):=ob Tryz.f23 (pth k)
abbrev R (i k:Nat):Code:=.region i ⟨O k⟩ false
def ret (P:PT):EP:=retE T0 14 Tryz.f23 P
abbrev k0:Sk:=[(1,.x)]
def B1 (P:PT):Y k0:=fun x1 H=>
  li H x1 0 (fun v1=>ld1 H x1 1 (fun v2=>A 79 [(agg ⟨[(I v1),v2]⟩)] H (fun v3 H4=>P (tuple ⟨[v3,(I 0)]⟩) H4)))
abbrev k1:Sk:=[]
def B2 (P:PT):Y k1:=fun H=>
  P (tuple ⟨[(slice none 0 0),(I 1)]⟩) H
def B3 (P:PT):Y k1:=fun H=>
  P (tuple ⟨[(slice none 0 0),(I 3)]⟩) H
def B4 (P:PT):Y k0:=fun x1 H=>
  li H x1 0 (fun v1=>pif (decide ((v1:Int)>12)) (B3 P H) (B1 P x1 H))
def B5 (P:PT):Y k0:=fun x1 H=>
  li H x1 0 (fun v1=>ld1 H x1 1 (fun v2=>A 68 [(agg ⟨[(I v1),v2]⟩)] H (fun v3 H4=>asB v3 (fun v5=>pif (!v5) (B2 P H4) (B4 P x1 H4)))))
abbrev k2:Sk:=[(0,.g [.i,.v])]
def B6 (P:PT):Y k2:=fun x0a x0b H=>
  newK H [(I x0a),x0b] 31 (fun b1 H2=>B5 P b1 H2)
def code:Code:=(.seq (R 0 2) (.seq (.block 0 (.seq (R 1 24) (.cond (.tmp 4) (.seq (R 2 100) .ret) (.seq (R 3 102) (.cond (.tmp 8) (.seq (R 4 412) .ret) .skip))))) (.seq (R 5 14) .ret)))
theorem body:Tryz.f23.body=some code:=by kernel_rfl
theorem main P:Z 14 k2 (B6 P) code (ret P):=
  (r_seq (b (E k0 (B5 P))) (r_seq (r_block (r_seq (b (cnd 4 (E k1 (B2 P)) (E k0 (B4 P)))) (r_cond rfl (r_seq (b (ret P)) r_ret) (r_seq (b (cnd 8 (E k1 (B3 P)) (E k0 (B1 P)))) (r_cond rfl (r_seq (b (ret P)) r_ret) r_skip))))) (r_seq (b (ret P)) r_ret)))
theorem ac (P:PT) (x0a:Int) (x0b:Value) (H:AHeap) (h:B6 P x0a x0b H):A 23 [(agg ⟨[(I x0a),x0b]⟩)] H P:=
  r_fn T0_ok (c:=code) (n:=14) Tryz.func23 body (by kernel_rfl) (main P) (En_mk (x0a,x0b,()) (by kernel_rfl) ⟨by kernel_rfl,trivial⟩ h)

end F23
namespace F24
abbrev E:=En 26
def O (k:Nat):=ob Tryz.f24 (pth k)
abbrev R (i k:Nat):Code:=.region i ⟨O k⟩ false
def ret (P:PT):EP:=retE T0 26 Tryz.f24 P
abbrev k0:Sk:=[]
def B1 (P:PT):Y k0:=fun H=>
  P (bool true) H
abbrev k1:Sk:=[(0,.v),(1,.v),(5,J)]
def B3 (P:PT) (N2:Y k1):Y k1:=fun x0 x1 x5 H=>
  N2 x0 x1 (i64.wrap (x5+1)) H
def B4 (P:PT) (N2:Y k1):Y k0:=fun H=>
  P (bool false) H
def o5:=O 1864
def B5 (P:PT) (N2:Y k1):Y k1:=fun x0 x1 x5 H=>
  idxK x0 x5 1 (fun b1 o2=>li H b1 o2 (fun v3=>idxK x1 x5 1 (fun b4 o5=>li H b4 o5 (fun v6=>pif ((v3:Int) != v6) (B4 P N2 H) (B3 P N2 x0 x1 x5 H)))))
theorem q5 (P:PT) (N2:Y k1):QD Tryz.prog T0 26 o5 [(0,false),(1,false),(2,false),(3,false),(4,false),(5,false),(6,false),(7,false),(8,false)] (cnd 25 (En 26 k0 (B4 P N2)) (En 26 k1 (B3 P N2))) k1 (B5 P N2):=fun _ _ _ _ _  => by kernel_rfl
def B6 (P:PT) (N2:Y k1):Y k1:=fun x0 x1 x5 H=>
  lenK x0 (fun n1=>pif (decide ((x5:Int)<(n1:Int))) (B5 P N2 x0 x1 x5 H) (B1 P H))
def L2 (P:PT):Y k1:=fun x0 x1 x5 H=>
  ∃ (I:Y k1) (μ:NTy k1 (AHeap→Nat)),I x0 x1 x5 H∧∀ y0 y1 y5 G,I y0 y1 y5 G→B6 P (fun z0 z1 z5 G'=>I z0 z1 z5 G'∧μ z0 z1 z5 G'<μ y0 y1 y5 G) y0 y1 y5 G
theorem l2 P:LQ k1 (L2 P) (B6 P):=fun ⟨_,_,_,_⟩ _ ⟨I,μ,h0,hI⟩=>⟨apT _ I,apT _ μ,h0,fun ⟨_,_,_,_⟩ _ h=>hI _ _ _ _  h⟩
abbrev k2:Sk:=[(0,.v),(1,.v)]
def B7 (P:PT):Y k2:=fun x0 x1 H=>
  L2 P x0 x1 0 H
def B8 (P:PT):Y k0:=fun H=>
  P (bool false) H
def B9 (P:PT):Y k2:=fun x0 x1 H=>
  lenK x0 (fun n1=>lenK x1 (fun n2=>pif (((n1:Int):Int) != (n2:Int)) (B8 P H) (B7 P x0 x1 H)))
def B10 (P:PT):Y k2:=fun x0 x1 H=>
  B9 P x0 x1 H
def code:Code:=(.seq (R 0 2) (.seq (.seq (R 1 12) (.cond (.tmp 10) (.seq (R 2 52) .ret) .skip)) (.seq (.seq (R 3 28) (.block 0 (.loop (.seq (.seq (R 4 464) (.cond (.tmp 14) .skip (.exit 0))) (.seq (.block 1 (.seq (.region 6 ⟨o5⟩ true) (.cond (.tmp 25) (.seq (R 7 7460) .ret) .skip))) (R 5 467)))))) (.seq (R 8 30) .ret))))
theorem body:Tryz.f24.body=some code:=by kernel_rfl
theorem main P:Z 26 k2 (B10 P) code (ret P):=
  (r_seq (b (E k2 (B9 P))) (r_seq (r_seq (b (cnd 10 (E k0 (B8 P)) (E k2 (B7 P)))) (r_cond rfl (r_seq (b (ret P)) r_ret) r_skip)) (r_seq (r_seq (b (E k1 (L2 P))) (r_block (rL (l2 P) (fun N2=>(r_seq (r_seq (b (cnd 14 (E k1 (B5 P N2)) (E k0 (B1 P)))) (r_cond rfl r_skip (r_exit (fun _ _ h=>h)))) (r_seq (r_block (r_seq (rD T0_ok mixed [(0,false),(1,false),(2,false),(3,false),(4,false),(5,false),(6,false),(7,false),(8,false)] (by kernel_rfl) (q5 P N2)) (r_cond rfl (r_seq (b (ret P)) r_ret) r_skip))) (b (E k1 N2)))))))) (r_seq (b (ret P)) r_ret))))
theorem ac (P:PT) (x0 x1:Value) (H:AHeap) (h:B10 P x0 x1 H):A 24 [x0,x1] H P:=
  r_fn T0_ok (c:=code) (n:=26) Tryz.func24 body (by kernel_rfl) (main P) (En_mk (x0,x1,()) (by kernel_rfl) ⟨by kernel_rfl,by kernel_rfl,trivial⟩ h)

end F24
namespace F25
abbrev E:=En 21
def O (k:Nat):=ob Tryz.f25 (pth k)
abbrev R (i k:Nat):Code:=.region i ⟨O k⟩ false
def ret (P:PT):EP:=retE T0 21 Tryz.f25 P
abbrev k0:Sk:=[(2,.x),(6,.x),(7,J),(8,J)]
def B1 (P:PT):Y k0:=fun x2 x6 x7 x8 H=>
  li H x6 0 (fun v1=>ld1 H x6 1 (fun v2=>stK H x2 0 [(I v1),v2] (fun H3=>li H3 x2 0 (fun v4=>ld1 H3 x2 1 (fun v5=>P (tuple ⟨[(agg ⟨[(I v4),v5]⟩),(I x7),(I x8)]⟩) H3)))))
abbrev k1:Sk:=[(2,.x),(5,.v),(6,.x)]
def B2 (P:PT):Y k1:=fun x2 x5 x6 H=>
  A 81 [x5] H (fun v1 H2=>tup2 v1 (fun v3 v4=>asI .i64 v3 (fun v5=>asI .i64 v4 (fun v6=>B1 P x2 x6 v5 v6 H2))))
abbrev k2:Sk:=[(2,.x),(5,.v)]
def B3 (P:PT):Y k2:=fun x2 x5 H=>
  A 77 [x5] H (fun v1 H2=>agg2 v1 (fun v3 v4=>asI .i64 v3 (fun v5=>newK H2 [(I 0),(slice none 0 0)] 31 (fun b7 H8=>stK H8 b7 0 [(I v5),v4] (fun H9=>B2 P x2 x5 b7 H9)))))
abbrev k3:Sk:=[(0,.v),(2,.x)]
def B4 (P:PT):Y k3:=fun x0 x2 H=>
  A 78 [x0] H (fun v1 H2=>B3 P x2 v1 H2)
abbrev k4:Sk:=[(0,.v)]
def B5 (P:PT):Y k4:=fun x0 H=>
  newK H [(I 0),(slice none 0 0)] 31 (fun b1 H2=>B4 P x0 b1 H2)
def code:Code:=(.seq (R 0 2) (.seq (R 1 6) (.seq (R 2 14) (.seq (R 3 30) (.seq (R 4 62) .ret)))))
theorem body:Tryz.f25.body=some code:=by kernel_rfl
theorem main P:Z 21 k4 (B5 P) code (ret P):=
  (r_seq (b (E k3 (B4 P))) (r_seq (b (E k2 (B3 P))) (r_seq (b (E k1 (B2 P))) (r_seq (b (E k0 (B1 P))) (r_seq (b (ret P)) r_ret)))))
theorem ac (P:PT) (x0:Value) (H:AHeap) (h:B5 P x0 H):A 25 [x0] H P:=
  r_fn T0_ok (c:=code) (n:=21) Tryz.func25 body (by kernel_rfl) (main P) (En_mk (x0,()) (by kernel_rfl) ⟨by kernel_rfl,trivial⟩ h)

end F25
namespace F26
abbrev E:=En 32
def O (k:Nat):=ob Tryz.f26 (pth k)
abbrev R (i k:Nat):Code:=.region i ⟨O k⟩ false
def ret (P:PT):EP:=retE T0 32 Tryz.f26 P
abbrev k0:Sk:=[(9,.v)]
def B1 (P:PT):Y k0:=fun x9 H=>
  P (tuple ⟨[x9,(I 0)]⟩) H
abbrev k1:Sk:=[]
def B2 (P:PT):Y k1:=fun H=>
  P (tuple ⟨[(slice none 0 0),(I 4)]⟩) H
abbrev k2:Sk:=[(9,.v),(10,.b)]
def B3 (P:PT):Y k2:=fun x9 x10 H=>
  pif (!x10) (B2 P H) (B1 P x9 H)
abbrev k3:Sk:=[(1,J),(2,J),(3,.x)]
def B4 (P:PT):Y k3:=fun x1 x2 x3 H=>
  li H x3 0 (fun v1=>ld1 H x3 1 (fun v2=>A 84 [(agg ⟨[(I v1),v2]⟩)] H (fun v3 H4=>A 85 [(I x1),(I x2)] H4 (fun v6 H7=>A 83 [(I x1),v3,v6,(bool false)] H7 (fun v9 H10=>tup2 v9 (fun v11 v12=>asB v12 (fun v14=>B3 P v11 v14 H10)))))))
abbrev k4:Sk:=[(8,J)]
def B5 (P:PT):Y k4:=fun x8 H=>
  P (tuple ⟨[(slice none 0 0),(I x8)]⟩) H
abbrev k5:Sk:=[(1,J),(2,J),(3,.x),(8,J)]
def B6 (P:PT):Y k5:=fun x1 x2 x3 x8 H=>
  pif ((x8:Int) != 0) (B5 P x8 H) (B4 P x1 x2 x3 H)
def o7:=O 12
def B7 (P:PT):Y k3:=fun x1 x2 x3 H=>
  li H x3 0 (fun v1=>ld1 H x3 1 (fun v2=>A 82 [(I x1),(I x2)] H (fun v3 H4=>asB v3 (fun v5=>(AHeap.le H H4)∧(A 72 [(agg ⟨[(I v1),v2]⟩),(bool v5),(I 10)] H4 (fun v6 H7=>asI .i64 v6 (fun v8=>B6 P x1 x2 x3 v8 H7)))))))
theorem q7 (P:PT):QD Tryz.prog T0 32 o7 [(0,false),(1,false),(2,false),(3,true),(4,false),(5,false)] (En 32 k5 (B6 P)) k3 (B7 P):=fun _ _ _ _ _  => by kernel_rfl
abbrev k6:Sk:=[(0,.g [.i,.v]),(1,J),(2,J)]
def B8 (P:PT):Y k6:=fun x0a x0b x1 x2 H=>
  newK H [(I x0a),x0b] 31 (fun b1 H2=>B7 P x1 x2 b1 H2)
def code:Code:=(.seq (R 0 2) (.seq (.seq (.region 1 ⟨o7⟩ true) (.seq (R 2 26) (.cond (.tmp 17) (.seq (R 3 108) .ret) .skip))) (.seq (R 4 14) (.seq (.seq (R 5 60) (.cond (.tmp 30) (.seq (R 6 244) .ret) .skip)) (.seq (R 7 62) .ret)))))
theorem body:Tryz.f26.body=some code:=by kernel_rfl
theorem main P:Z 32 k6 (B8 P) code (ret P):=
  (r_seq (b (E k3 (B7 P))) (r_seq (r_seq (rD T0_ok mixed [(0,false),(1,false),(2,false),(3,true),(4,false),(5,false)] (by kernel_rfl) (q7 P)) (r_seq (b (cnd 17 (E k4 (B5 P)) (E k3 (B4 P)))) (r_cond rfl (r_seq (b (ret P)) r_ret) r_skip))) (r_seq (b (E k2 (B3 P))) (r_seq (r_seq (b (cnd 30 (E k1 (B2 P)) (E k0 (B1 P)))) (r_cond rfl (r_seq (b (ret P)) r_ret) r_skip)) (r_seq (b (ret P)) r_ret)))))
theorem ac (P:PT) (x0a:Int) (x0b:Value) (x1 x2:Int) (H:AHeap) (h:B8 P x0a x0b x1 x2 H):A 26 [(agg ⟨[(I x0a),x0b]⟩),(I x1),(I x2)] H P:=
  r_fn T0_ok (c:=code) (n:=32) Tryz.func26 body (by kernel_rfl) (main P) (En_mk (x0a,x0b,x1,x2,()) (by kernel_rfl) ⟨by kernel_rfl,by kernel_rfl,by kernel_rfl,trivial⟩ h)

end F26
namespace F27
abbrev E:=En 34
def O (k:Nat):=ob Tryz.f27 (pth k)
abbrev R (i k:Nat):Code:=.region i ⟨O k⟩ false
def ret (P:PT):EP:=retE T0 34 Tryz.f27 P
abbrev k0:Sk:=[(8,.v)]
def B1 (P:PT):Y k0:=fun x8 H=>
  P (tuple ⟨[x8,(I 0)]⟩) H
abbrev k1:Sk:=[]
def B2 (P:PT):Y k1:=fun H=>
  P (tuple ⟨[(slice none 0 0),(I 4)]⟩) H
abbrev k2:Sk:=[(8,.v),(9,.b)]
def B3 (P:PT):Y k2:=fun x8 x9 H=>
  pif (!x9) (B2 P H) (B1 P x8 H)
abbrev k3:Sk:=[(1,J),(2,J),(3,.x)]
def B4 (P:PT):Y k3:=fun x1 x2 x3 H=>
  li H x3 0 (fun v1=>ld1 H x3 1 (fun v2=>newK H [] 2 (fun b3 H4=>A 87 [(agg ⟨[(I v1),v2]⟩),(I x1),(I x2),(slice (some ⟨b3,0,none⟩) 0 (0+1))] H4 (fun v5 H6=>tup2 v5 (fun v7 v8=>asB v8 (fun v10=>B3 P v7 v10 H6))))))
def B5 (P:PT):Y k1:=fun H=>
  P (tuple ⟨[(slice none 0 0),(I 1)]⟩) H
def B6 (P:PT):Y k1:=fun H=>
  P (tuple ⟨[(slice none 0 0),(I 2)]⟩) H
def B7 (P:PT):Y k1:=fun H=>
  P (tuple ⟨[(slice none 0 0),(I 3)]⟩) H
def B8 (P:PT):Y k3:=fun x1 x2 x3 H=>
  li H x3 0 (fun v1=>pif (decide ((v1:Int)>10)) (B7 P H) (B4 P x1 x2 x3 H))
def B9 (P:PT):Y k3:=fun x1 x2 x3 H=>
  A 86 [(I x1),(I x2)] H (fun v1 H2=>asB v1 (fun v3=>pif (!v3) (B6 P H2) (B8 P x1 x2 x3 H2)))
def B10 (P:PT):Y k3:=fun x1 x2 x3 H=>
  li H x3 0 (fun v1=>ld1 H x3 1 (fun v2=>A 68 [(agg ⟨[(I v1),v2]⟩)] H (fun v3 H4=>asB v3 (fun v5=>pif (!v5) (B5 P H4) (B9 P x1 x2 x3 H4)))))
abbrev k4:Sk:=[(0,.g [.i,.v]),(1,J),(2,J)]
def B11 (P:PT):Y k4:=fun x0a x0b x1 x2 H=>
  newK H [(I x0a),x0b] 31 (fun b1 H2=>B10 P x1 x2 b1 H2)
def code:Code:=(.seq (R 0 2) (.seq (.block 0 (.seq (R 1 24) (.cond (.tmp 10) (.seq (R 2 100) .ret) (.seq (R 3 102) (.cond (.tmp 14) (.seq (R 4 412) .ret) (.seq (R 5 414) (.cond (.tmp 19) (.seq (R 6 1660) .ret) .skip))))))) (.seq (R 7 14) (.seq (.seq (R 8 60) (.cond (.tmp 32) (.seq (R 9 244) .ret) .skip)) (.seq (R 10 62) .ret)))))
theorem body:Tryz.f27.body=some code:=by kernel_rfl
theorem main P:Z 34 k4 (B11 P) code (ret P):=
  (r_seq (b (E k3 (B10 P))) (r_seq (r_block (r_seq (b (cnd 10 (E k1 (B5 P)) (E k3 (B9 P)))) (r_cond rfl (r_seq (b (ret P)) r_ret) (r_seq (b (cnd 14 (E k1 (B6 P)) (E k3 (B8 P)))) (r_cond rfl (r_seq (b (ret P)) r_ret) (r_seq (b (cnd 19 (E k1 (B7 P)) (E k3 (B4 P)))) (r_cond rfl (r_seq (b (ret P)) r_ret) r_skip))))))) (r_seq (b (E k2 (B3 P))) (r_seq (r_seq (b (cnd 32 (E k1 (B2 P)) (E k0 (B1 P)))) (r_cond rfl (r_seq (b (ret P)) r_ret) r_skip)) (r_seq (b (ret P)) r_ret)))))
theorem ac (P:PT) (x0a:Int) (x0b:Value) (x1 x2:Int) (H:AHeap) (h:B11 P x0a x0b x1 x2 H):A 27 [(agg ⟨[(I x0a),x0b]⟩),(I x1),(I x2)] H P:=
  r_fn T0_ok (c:=code) (n:=34) Tryz.func27 body (by kernel_rfl) (main P) (En_mk (x0a,x0b,x1,x2,()) (by kernel_rfl) ⟨by kernel_rfl,by kernel_rfl,by kernel_rfl,trivial⟩ h)

end F27
namespace F28
abbrev E:=En 80
def O (k:Nat):=ob Tryz.f28 (pth k)
abbrev R (i k:Nat):Code:=.region i ⟨O k⟩ false
def ret (P:PT):EP:=retE T0 80 Tryz.f28 P
abbrev k0:Sk:=[(2,.x),(7,.x),(8,J),(9,J),(13,.v)]
def B1 (P:PT):Y k0:=fun x2 x7 x8 x9 x13 H=>
  li H x7 0 (fun v1=>ld1 H x7 1 (fun v2=>stK H x2 0 [(I v1),v2] (fun H3=>li H3 x2 0 (fun v4=>ld1 H3 x2 1 (fun v5=>P (tuple ⟨[(agg ⟨[(I v4),v5]⟩),(I x8),(I x9),x13]⟩) H3)))))
abbrev k1:Sk:=[(2,.x),(6,.v),(7,.x),(8,J),(9,J),(13,.v),(14,J)]
def B3 (P:PT) (N2:Y k1):Y k1:=fun x2 x6 x7 x8 x9 x13 x14 H=>
  N2 x2 x6 x7 x8 x9 x13 (i64.wrap (x14+1)) H
def B4 (P:PT) (N2:Y k1):Y k1:=fun x2 x6 x7 x8 x9 x13 x14 H=>
  A 88 [x6,(I (if 1>x8 then 1 else x8))] H (fun v1 H2=>asI .i64 v1 (fun v3=>newK H2 [(I v3)] 2 (fun b4 H5=>apK T0 2 H5 x13 (slice (some ⟨b4,0,none⟩) 1 (1+1)) (fun v6 H7=>B3 P N2 x2 x6 x7 x8 x9 v6 x14 H7))))
def o5:=O 8144
def B5 (P:PT) (N2:Y k1):Y k1:=fun x2 x6 x7 x8 x9 x13 x14 H=>
  ld1 H x7 1 (fun v1=>lenK v1 (fun n2=>A 88 [x6,(I 12)] H (fun v3 H4=>asI .i64 v3 (fun v5=>(ld1 H4 x7 1 (fun v6=>(v6=v1)∧(H4=H4)))∧(pif (decide ((x14:Int)<(i64.wrap ((n2:Int)+(i64.wrap (Int.tdiv v5 11)))))) (B4 P N2 x2 x6 x7 x8 x9 x13 x14 H4) (B1 P x2 x7 x8 x9 x13 H4))))))
theorem q5 (P:PT) (N2:Y k1):QT Tryz.prog T0 80 o5 (.op 0 [] (.op 1 [] (.op 2 [] (.op 3 [] (.op 4 [] (.op 5 [2] (.op 6 [] (.op 7 [] (.op 8 [] .done))))))))) (cnd 66 (En 80 k1 (B4 P N2)) (En 80 k0 (B1 P))) k1 (B5 P N2):=fun _ _ _ _ _ _ _ _ _  => by kernel_rfl
def L2 (P:PT):Y k1:=fun x2 x6 x7 x8 x9 x13 x14 H=>
  ∃ (I:Y k1) (μ:NTy k1 (AHeap→Nat)),I x2 x6 x7 x8 x9 x13 x14 H∧∀ y2 y6 y7 y8 y9 y13 y14 G,I y2 y6 y7 y8 y9 y13 y14 G→B5 P (fun z2 z6 z7 z8 z9 z13 z14 G'=>I z2 z6 z7 z8 z9 z13 z14 G'∧μ z2 z6 z7 z8 z9 z13 z14 G'<μ y2 y6 y7 y8 y9 y13 y14 G) y2 y6 y7 y8 y9 y13 y14 G
theorem l2 P:LQ k1 (L2 P) (B5 P):=fun ⟨_,_,_,_,_,_,_,_⟩ _ ⟨I,μ,h0,hI⟩=>⟨apT _ I,apT _ μ,h0,fun ⟨_,_,_,_,_,_,_,_⟩ _ h=>hI _ _ _ _ _ _ _ _  h⟩
abbrev k2:Sk:=[(2,.x),(6,.v),(7,.x),(8,J),(9,J),(13,.v)]
def B6 (P:PT):Y k2:=fun x2 x6 x7 x8 x9 x13 H=>
  L2 P x2 x6 x7 x8 x9 x13 0 H
abbrev k3:Sk:=[(2,.x),(6,.v),(7,.x),(8,J),(9,J)]
def B7 (P:PT):Y k3:=fun x2 x6 x7 x8 x9 H=>
  newK H [] 2 (fun b1 H2=>B6 P x2 x6 x7 x8 x9 (slice (some ⟨b1,0,none⟩) 0 (0+1)) H2)
abbrev k4:Sk:=[(2,.x),(7,.x),(8,J),(9,J),(12,.v)]
def B8 (P:PT):Y k4:=fun x2 x7 x8 x9 x12 H=>
  li H x7 0 (fun v1=>ld1 H x7 1 (fun v2=>stK H x2 0 [(I v1),v2] (fun H3=>li H3 x2 0 (fun v4=>ld1 H3 x2 1 (fun v5=>P (tuple ⟨[(agg ⟨[(I v4),v5]⟩),(I x8),(I x9),x12]⟩) H3)))))
abbrev k5:Sk:=[(2,.x),(6,.v),(7,.x),(8,J),(9,J),(12,.v)]
def o9:=O 8042
def B9 (P:PT):Y k5:=fun x2 x6 x7 x8 x9 x12 H=>
  lenK x12 (fun n1=>A 88 [x6,(I (n1:Int))] H (fun v2 H3=>asI .i64 v2 (fun v4=>A 88 [x6,(I (i64.wrap (x8+1)))] H3 (fun v5 H6=>asI .i64 v5 (fun v7=>idxK x12 v4 1 (fun b8 o9=>stK H6 b8 o9 [(I v7)] (fun H10=>B8 P x2 x7 x8 x9 x12 H10)))))))
def B10 (P:PT):Y k5:=fun x2 x6 x7 x8 x9 x12 H=>
  A 88 [x6,(I 2)] H (fun v1 H2=>asI .i64 v1 (fun v3=>pif ((v3:Int)==0) (B9 P x2 x6 x7 x8 x9 x12 H2) (B8 P x2 x7 x8 x9 x12 H2)))
abbrev k6:Sk:=[(2,.x),(6,.v),(7,.x),(8,J),(9,J),(10,.v)]
def B11 (P:PT):Y k6:=fun x2 x6 x7 x8 x9 x10 H=>
  A 89 [x10] H (fun v1 H2=>B10 P x2 x6 x7 x8 x9 v1 H2)
abbrev k7:Sk:=[(2,.x),(6,.v),(7,.x),(8,J),(9,J),(10,.v),(11,J)]
def B12 (P:PT):Y k7:=fun x2 x6 x7 x8 x9 x10 x11 H=>
  pif ((x11:Int)==0) (A 88 [x6,(I 3)] H (fun v1 H2=>asI .i64 v1 (fun v3=>pif (decide ((v3:Int)>0)) (B11 P x2 x6 x7 x8 x9 x10 H2) (B7 P x2 x6 x7 x8 x9 H2)))) (B7 P x2 x6 x7 x8 x9 H)
def B13 (P:PT):Y k3:=fun x2 x6 x7 x8 x9 H=>
  li H x7 0 (fun v1=>ld1 H x7 1 (fun v2=>A 27 [(agg ⟨[(I v1),v2]⟩),(I x8),(I x9)] H (fun v3 H4=>tup2 v3 (fun v5 v6=>asI .i64 v6 (fun v8=>B12 P x2 x6 x7 x8 x9 v5 v8 H4)))))
abbrev k8:Sk:=[(2,.x),(6,.v),(7,.x)]
def B14 (P:PT):Y k8:=fun x2 x6 x7 H=>
  A 81 [x6] H (fun v1 H2=>tup2 v1 (fun v3 v4=>asI .i64 v3 (fun v5=>asI .i64 v4 (fun v6=>B13 P x2 x6 x7 v5 v6 H2))))
abbrev k9:Sk:=[(2,.x),(6,.v)]
def B15 (P:PT):Y k9:=fun x2 x6 H=>
  A 77 [x6] H (fun v1 H2=>agg2 v1 (fun v3 v4=>asI .i64 v3 (fun v5=>newK H2 [(I 0),(slice none 0 0)] 31 (fun b7 H8=>stK H8 b7 0 [(I v5),v4] (fun H9=>B14 P x2 x6 b7 H9)))))
abbrev k10:Sk:=[(0,.v),(2,.x)]
def B16 (P:PT):Y k10:=fun x0 x2 H=>
  A 78 [x0] H (fun v1 H2=>B15 P x2 v1 H2)
abbrev k11:Sk:=[(0,.v)]
def B17 (P:PT):Y k11:=fun x0 H=>
  newK H [(I 0),(slice none 0 0)] 31 (fun b1 H2=>B16 P x0 b1 H2)
def code:Code:=(.seq (R 0 2) (.seq (R 1 6) (.seq (R 2 14) (.seq (R 3 30) (.seq (.seq (R 4 124) (.seq (R 5 250) (.cond (.tmp 37) (.seq (R 6 1004) (.seq (.seq (R 7 4020) (.cond (.tmp 42) (R 8 8042) .skip)) (.seq (R 9 4022) .ret))) .skip))) (.seq (R 10 126) (.seq (.seq (R 11 508) (.block 0 (.loop (.seq (.seq (.region 12 ⟨o5⟩ true) (.cond (.tmp 66) .skip (.exit 0))) (.seq (.block 1 (R 14 16292)) (R 13 8147)))))) (.seq (R 15 510) .ret))))))))
theorem body:Tryz.f28.body=some code:=by kernel_rfl
theorem main P:Z 80 k11 (B17 P) code (ret P):=
  (r_seq (b (E k10 (B16 P))) (r_seq (b (E k9 (B15 P))) (r_seq (b (E k8 (B14 P))) (r_seq (b (E k3 (B13 P))) (r_seq (r_seq (b (E k7 (B12 P))) (r_seq (b (cnd 37 (E k6 (B11 P)) (E k3 (B7 P)))) (r_cond rfl (r_seq (b (E k5 (B10 P))) (r_seq (r_seq (b (cnd 42 (E k5 (B9 P)) (E k4 (B8 P)))) (r_cond rfl (b (E k4 (B8 P))) r_skip)) (r_seq (b (ret P)) r_ret))) r_skip))) (r_seq (b (E k2 (B6 P))) (r_seq (r_seq (b (E k1 (L2 P))) (r_block (rL (l2 P) (fun N2=>(r_seq (r_seq (rT T0_ok mixed (.op 0 [] (.op 1 [] (.op 2 [] (.op 3 [] (.op 4 [] (.op 5 [2] (.op 6 [] (.op 7 [] (.op 8 [] .done))))))))) (by kernel_rfl) (q5 P N2)) (r_cond rfl r_skip (r_exit (fun _ _ h=>h)))) (r_seq (r_block (b (E k1 (B3 P N2)))) (b (E k1 N2)))))))) (r_seq (b (ret P)) r_ret))))))))
theorem ac (P:PT) (x0:Value) (H:AHeap) (h:B17 P x0 H):A 28 [x0] H P:=
  r_fn T0_ok (c:=code) (n:=80) Tryz.func28 body (by kernel_rfl) (main P) (En_mk (x0,()) (by kernel_rfl) ⟨by kernel_rfl,trivial⟩ h)

end F28
namespace F29
abbrev E:=En 35
def O (k:Nat):=ob Tryz.f29 (pth k)
abbrev R (i k:Nat):Code:=.region i ⟨O k⟩ false
def ret (P:PT):EP:=retE T0 35 Tryz.f29 P
abbrev k0:Sk:=[(1,J),(2,J),(3,.v),(4,.x)]
def B1 (P:PT):Y k0:=fun x1 x2 x3 x4 H=>
  li H x4 0 (fun v1=>ld1 H x4 1 (fun v2=>A 84 [(agg ⟨[(I v1),v2]⟩)] H (fun v3 H4=>A 85 [(I x1),(I x2)] H4 (fun v6 H7=>A 90 [x3,(I x1),v3,v6] H7 (fun v9 H10=>asB v9 (fun v11=>P (tuple ⟨[(bool v11),(I 0)]⟩) H10))))))
abbrev k1:Sk:=[(10,J)]
def B2 (P:PT):Y k1:=fun x10 H=>
  P (tuple ⟨[(bool false),(I x10)]⟩) H
abbrev k2:Sk:=[(1,J),(2,J),(3,.v),(4,.x),(10,J)]
def B3 (P:PT):Y k2:=fun x1 x2 x3 x4 x10 H=>
  pif ((x10:Int) != 0) (B2 P x10 H) (B1 P x1 x2 x3 x4 H)
def o4:=O 12
def B4 (P:PT):Y k0:=fun x1 x2 x3 x4 H=>
  li H x4 0 (fun v1=>ld1 H x4 1 (fun v2=>A 82 [(I x1),(I x2)] H (fun v3 H4=>asB v3 (fun v5=>(AHeap.le H H4)∧(pif v5 (lenK x3 (fun n6=>ld1 H4 x4 1 (fun v7=>lenK v7 (fun n8=>A 55 [(agg ⟨[(I v1),v2]⟩),(bool (((n6:Int):Int)==(n8:Int)))] H4 (fun v9 H10=>asI .i64 v9 (fun v11=>B3 P x1 x2 x3 x4 v11 H10)))))) (A 55 [(agg ⟨[(I v1),v2]⟩),(bool false)] H4 (fun v12 H13=>asI .i64 v12 (fun v14=>B3 P x1 x2 x3 x4 v14 H13))))))))
theorem q4 (P:PT):QD Tryz.prog T0 35 o4 [(0,false),(1,false),(2,false),(3,true),(4,false),(5,false),(6,false),(7,false),(8,false),(9,false),(10,false),(11,false),(12,false),(13,false)] (En 35 k2 (B3 P)) k0 (B4 P):=fun _ _ _ _ _ _  => by kernel_rfl
abbrev k3:Sk:=[(0,.g [.i,.v]),(1,J),(2,J),(3,.v)]
def B5 (P:PT):Y k3:=fun x0a x0b x1 x2 x3 H=>
  newK H [(I x0a),x0b] 31 (fun b1 H2=>B4 P x1 x2 x3 b1 H2)
def code:Code:=(.seq (R 0 2) (.seq (.seq (.region 1 ⟨o4⟩ true) (.seq (R 2 26) (.cond (.tmp 25) (.seq (R 3 108) .ret) .skip))) (.seq (R 4 14) .ret)))
theorem body:Tryz.f29.body=some code:=by kernel_rfl
theorem main P:Z 35 k3 (B5 P) code (ret P):=
  (r_seq (b (E k0 (B4 P))) (r_seq (r_seq (rD T0_ok mixed [(0,false),(1,false),(2,false),(3,true),(4,false),(5,false),(6,false),(7,false),(8,false),(9,false),(10,false),(11,false),(12,false),(13,false)] (by kernel_rfl) (q4 P)) (r_seq (b (cnd 25 (E k1 (B2 P)) (E k0 (B1 P)))) (r_cond rfl (r_seq (b (ret P)) r_ret) r_skip))) (r_seq (b (ret P)) r_ret)))
theorem ac (P:PT) (x0a:Int) (x0b:Value) (x1 x2:Int) (x3:Value) (H:AHeap) (h:B5 P x0a x0b x1 x2 x3 H):A 29 [(agg ⟨[(I x0a),x0b]⟩),(I x1),(I x2),x3] H P:=
  r_fn T0_ok (c:=code) (n:=35) Tryz.func29 body (by kernel_rfl) (main P) (En_mk (x0a,x0b,x1,x2,x3,()) (by kernel_rfl) ⟨by kernel_rfl,by kernel_rfl,by kernel_rfl,by kernel_rfl,trivial⟩ h)

end F29
namespace F30
abbrev E:=En 66
def O (k:Nat):=ob Tryz.f30 (pth k)
abbrev R (i k:Nat):Code:=.region i ⟨O k⟩ false
def ret (P:PT):EP:=retE T0 66 Tryz.f30 P
abbrev k0:Sk:=[]
def B1 (P:PT):Y k0:=fun H=>
  P (tuple ⟨[(bool true),(I 0)]⟩) H
abbrev k1:Sk:=[(1,J),(2,J),(3,.v),(4,.x),(10,J)]
def B3 (P:PT) (N2:Y k1):Y k1:=fun x1 x2 x3 x4 x10 H=>
  N2 x1 x2 x3 x4 (i64.wrap (x10+1)) H
abbrev k2:Sk:=[(1,J),(2,J),(3,.v),(4,.x),(10,J),(11,J)]
def B5 (P:PT) (N2:Y k1) (N4:Y k2):Y k2:=fun x1 x2 x3 x4 x10 x11 H=>
  N4 x1 x2 x3 x4 x10 (i64.wrap (x11+1)) H
def B6 (P:PT) (N2:Y k1) (N4:Y k2):Y k0:=fun H=>
  P (tuple ⟨[(bool false),(I 0)]⟩) H
def o7:=O 238792
def B7 (P:PT) (N2:Y k1) (N4:Y k2):Y k2:=fun x1 x2 x3 x4 x10 x11 H=>
  li H x4 0 (fun v1=>ld1 H x4 1 (fun v2=>A 92 [(agg ⟨[(I v1),v2]⟩),(I x10),(I x11)] H (fun v3 H4=>asB v3 (fun v5=>pif v5 (idxK x3 x10 1 (fun b6 o7=>li H4 b6 o7 (fun v8=>idxK x3 x11 1 (fun b9 o10=>li H4 b9 o10 (fun v11=>A 93 [(I x1),(I x2),(I v8),(I v11)] H4 (fun v12 H13=>asB v12 (fun v14=>pif (!v14) (B6 P N2 N4 H13) (B5 P N2 N4 x1 x2 x3 x4 x10 x11 H13)))))))) (B5 P N2 N4 x1 x2 x3 x4 x10 x11 H4)))))
theorem q7 (P:PT) (N2:Y k1) (N4:Y k2):QD Tryz.prog T0 66 o7 [(0,false),(1,false),(2,false),(3,false),(4,false),(5,false),(6,false),(7,false),(8,false),(9,false),(10,false),(11,false),(12,false),(13,false),(14,false),(15,false),(16,false),(17,false)] (cnd 65 (En 66 k0 (B6 P N2 N4)) (En 66 k2 (B5 P N2 N4))) k2 (B7 P N2 N4):=fun _ _ _ _ _ _ _ _  => by kernel_rfl
def B8 (P:PT) (N2:Y k1) (N4:Y k2):Y k2:=fun x1 x2 x3 x4 x10 x11 H=>
  pif (decide ((x11:Int)<x10)) (B7 P N2 N4 x1 x2 x3 x4 x10 x11 H) (B3 P N2 x1 x2 x3 x4 x10 H)
def L4 (P:PT) (N2:Y k1):Y k2:=fun x1 x2 x3 x4 x10 x11 H=>
  ∃ (I:Y k2) (μ:NTy k2 (AHeap→Nat)),I x1 x2 x3 x4 x10 x11 H∧∀ y1 y2 y3 y4 y10 y11 G,I y1 y2 y3 y4 y10 y11 G→B8 P N2 (fun z1 z2 z3 z4 z10 z11 G'=>I z1 z2 z3 z4 z10 z11 G'∧μ z1 z2 z3 z4 z10 z11 G'<μ y1 y2 y3 y4 y10 y11 G) y1 y2 y3 y4 y10 y11 G
theorem l4 P N2:LQ k2 (L4 P N2) (B8 P N2):=fun ⟨_,_,_,_,_,_,_⟩ _ ⟨I,μ,h0,hI⟩=>⟨apT _ I,apT _ μ,h0,fun ⟨_,_,_,_,_,_,_⟩ _ h=>hI _ _ _ _ _ _ _  h⟩
def B9 (P:PT) (N2:Y k1):Y k1:=fun x1 x2 x3 x4 x10 H=>
  L4 P N2 x1 x2 x3 x4 x10 0 H
def o10:=O 14916
def B10 (P:PT) (N2:Y k1):Y k0:=fun H=>
  P (tuple ⟨[(bool false),(I 0)]⟩) H
def B11 (P:PT) (N2:Y k1):Y k1:=fun x1 x2 x3 x4 x10 H=>
  idxK x3 x10 1 (fun b1 o2=>li H b1 o2 (fun v3=>A 91 [(I v3),(I 0),(I (i64.wrap (x1-1)))] H (fun v4 H5=>asB v4 (fun v6=>pif (!v6) (B10 P N2 H5) (B9 P N2 x1 x2 x3 x4 x10 H5)))))
def B12 (P:PT) (N2:Y k1):Y k1:=fun x1 x2 x3 x4 x10 H=>
  lenK x3 (fun n1=>pif (decide ((x10:Int)<(n1:Int))) (B11 P N2 x1 x2 x3 x4 x10 H) (B1 P H))
def L2 (P:PT):Y k1:=fun x1 x2 x3 x4 x10 H=>
  ∃ (I:Y k1) (μ:NTy k1 (AHeap→Nat)),I x1 x2 x3 x4 x10 H∧∀ y1 y2 y3 y4 y10 G,I y1 y2 y3 y4 y10 G→B12 P (fun z1 z2 z3 z4 z10 G'=>I z1 z2 z3 z4 z10 G'∧μ z1 z2 z3 z4 z10 G'<μ y1 y2 y3 y4 y10 G) y1 y2 y3 y4 y10 G
theorem l2 P:LQ k1 (L2 P) (B12 P):=fun ⟨_,_,_,_,_,_⟩ _ ⟨I,μ,h0,hI⟩=>⟨apT _ I,apT _ μ,h0,fun ⟨_,_,_,_,_,_⟩ _ h=>hI _ _ _ _ _ _  h⟩
abbrev k3:Sk:=[(1,J),(2,J),(3,.v),(4,.x)]
def B13 (P:PT):Y k3:=fun x1 x2 x3 x4 H=>
  L2 P x1 x2 x3 x4 0 H
def B14 (P:PT):Y k0:=fun H=>
  P (tuple ⟨[(bool false),(I 1)]⟩) H
def B15 (P:PT):Y k0:=fun H=>
  P (tuple ⟨[(bool false),(I 2)]⟩) H
def B16 (P:PT):Y k3:=fun x1 x2 x3 x4 H=>
  A 86 [(I x1),(I x2)] H (fun v1 H2=>asB v1 (fun v3=>pif (!v3) (B15 P H2) (lenK x3 (fun n4=>ld1 H2 x4 1 (fun v5=>lenK v5 (fun n6=>pif (((n4:Int):Int) != (n6:Int)) (B15 P H2) (B13 P x1 x2 x3 x4 H2)))))))
def B17 (P:PT):Y k3:=fun x1 x2 x3 x4 H=>
  li H x4 0 (fun v1=>ld1 H x4 1 (fun v2=>A 68 [(agg ⟨[(I v1),v2]⟩)] H (fun v3 H4=>asB v3 (fun v5=>pif (!v5) (B14 P H4) (B16 P x1 x2 x3 x4 H4)))))
abbrev k4:Sk:=[(0,.g [.i,.v]),(1,J),(2,J),(3,.v)]
def B18 (P:PT):Y k4:=fun x0a x0b x1 x2 x3 H=>
  newK H [(I x0a),x0b] 31 (fun b1 H2=>B17 P x1 x2 x3 b1 H2)
def code:Code:=(.seq (R 0 2) (.seq (.block 0 (.seq (R 1 24) (.cond (.tmp 12) (.seq (R 2 100) .ret) (.seq (R 3 102) (.cond (.tmp 16) (.seq (R 4 412) .ret) .skip))))) (.seq (.seq (R 5 28) (.block 1 (.loop (.seq (.seq (R 6 464) (.cond (.tmp 32) .skip (.exit 1))) (.seq (.block 2 (.seq (.seq (R 8 3728) (.cond (.tmp 42) (.seq (R 9 14916) .ret) .skip)) (.seq (R 10 3730) (.block 3 (.loop (.seq (.seq (R 11 59696) (.cond (.tmp 45) .skip (.exit 3))) (.seq (.block 4 (.seq (.region 13 ⟨o7⟩ true) (.cond (.tmp 65) (.seq (R 14 955172) .ret) .skip))) (R 12 59699)))))))) (R 7 467)))))) (.seq (R 15 30) .ret))))
theorem body:Tryz.f30.body=some code:=by kernel_rfl
theorem main P:Z 66 k4 (B18 P) code (ret P):=
  (r_seq (b (E k3 (B17 P))) (r_seq (r_block (r_seq (b (cnd 12 (E k0 (B14 P)) (E k3 (B16 P)))) (r_cond rfl (r_seq (b (ret P)) r_ret) (r_seq (b (cnd 16 (E k0 (B15 P)) (E k3 (B13 P)))) (r_cond rfl (r_seq (b (ret P)) r_ret) r_skip))))) (r_seq (r_seq (b (E k1 (L2 P))) (r_block (rL (l2 P) (fun N2=>(r_seq (r_seq (b (cnd 32 (E k1 (B11 P N2)) (E k0 (B1 P)))) (r_cond rfl r_skip (r_exit (fun _ _ h=>h)))) (r_seq (r_block (r_seq (r_seq (b (cnd 42 (E k0 (B10 P N2)) (E k1 (B9 P N2)))) (r_cond rfl (r_seq (b (ret P)) r_ret) r_skip)) (r_seq (b (E k2 (L4 P N2))) (r_block (rL (l4 P N2) (fun N4=>(r_seq (r_seq (b (cnd 45 (E k2 (B7 P N2 N4)) (E k1 (B3 P N2)))) (r_cond rfl r_skip (r_exit (fun _ _ h=>h)))) (r_seq (r_block (r_seq (rD T0_ok mixed [(0,false),(1,false),(2,false),(3,false),(4,false),(5,false),(6,false),(7,false),(8,false),(9,false),(10,false),(11,false),(12,false),(13,false),(14,false),(15,false),(16,false),(17,false)] (by kernel_rfl) (q7 P N2 N4)) (r_cond rfl (r_seq (b (ret P)) r_ret) r_skip))) (b (E k2 N4)))))))))) (b (E k1 N2)))))))) (r_seq (b (ret P)) r_ret))))
theorem ac (P:PT) (x0a:Int) (x0b:Value) (x1 x2:Int) (x3:Value) (H:AHeap) (h:B18 P x0a x0b x1 x2 x3 H):A 30 [(agg ⟨[(I x0a),x0b]⟩),(I x1),(I x2),x3] H P:=
  r_fn T0_ok (c:=code) (n:=66) Tryz.func30 body (by kernel_rfl) (main P) (En_mk (x0a,x0b,x1,x2,x3,()) (by kernel_rfl) ⟨by kernel_rfl,by kernel_rfl,by kernel_rfl,by kernel_rfl,trivial⟩ h)

end F30
namespace F31
abbrev E:=En 26
def O (k:Nat):=ob Tryz.f31 (pth k)
abbrev R (i k:Nat):Code:=.region i ⟨O k⟩ false
def ret (P:PT):EP:=retE T0 26 Tryz.f31 P
abbrev k0:Sk:=[(2,.x),(5,.v),(6,.x),(7,J)]
def o1:=O 62
def B1 (P:PT):Y k0:=fun x2 x5 x6 x7 H=>
  li H x6 0 (fun v1=>ld1 H x6 1 (fun v2=>A 88 [x5,(I 12)] H (fun v3 H4=>asI .i64 v3 (fun v5=>(li H4 x6 0 (fun v6=>ld1 H4 x6 1 (fun v7=>((agg ⟨[(I v6),v7]⟩)=(agg ⟨[(I v1),v2]⟩))∧(H4=H4))))∧(A 88 [x5,(I (i64.wrap (x7+(i64.wrap (Int.tdiv v5 11)))))] H4 (fun v8 H9=>asI .i64 v8 (fun v10=>(li H9 x6 0 (fun v11=>ld1 H9 x6 1 (fun v12=>((agg ⟨[(I v11),v12]⟩)=(agg ⟨[(I v1),v2]⟩))∧(H9=H9))))∧(A 88 [x5,(I x7)] H9 (fun v13 H14=>asI .i64 v13 (fun v15=>(li H14 x6 0 (fun v16=>ld1 H14 x6 1 (fun v17=>((agg ⟨[(I v16),v17]⟩)=(agg ⟨[(I v1),v2]⟩))∧(H14=H14))))∧(stK H14 x2 0 [(I v1),v2] (fun H18=>li H18 x2 0 (fun v19=>ld1 H18 x2 1 (fun v20=>P (tuple ⟨[(agg ⟨[(I v19),v20]⟩),(I v10),(I v15)]⟩) H18))))))))))))))
theorem q1 (P:PT):QT Tryz.prog T0 26 o1 (.op 0 [] (.op 1 [] (.op 2 [] (.op 3 [] (.op 8 [] (.op 9 [] (.op 4 [0] (.op 5 [] (.op 6 [] (.op 7 [0] (.op 10 [0] (.op 11 [] (.op 12 [] (.op 13 [] .done)))))))))))))) (ret P) k0 (B1 P):=fun _ _ _ _ _ _  => by kernel_rfl
abbrev k1:Sk:=[(2,.x),(5,.v),(6,.x)]
def B2 (P:PT):Y k1:=fun x2 x5 x6 H=>
  ld1 H x6 1 (fun v1=>lenK v1 (fun n2=>B1 P x2 x5 x6 (n2:Int) H))
abbrev k2:Sk:=[(2,.x),(5,.v)]
def B3 (P:PT):Y k2:=fun x2 x5 H=>
  A 94 [x5] H (fun v1 H2=>agg2 v1 (fun v3 v4=>asI .i64 v3 (fun v5=>newK H2 [(I 0),(slice none 0 0)] 31 (fun b7 H8=>stK H8 b7 0 [(I v5),v4] (fun H9=>B2 P x2 x5 b7 H9)))))
abbrev k3:Sk:=[(0,.v),(2,.x)]
def B4 (P:PT):Y k3:=fun x0 x2 H=>
  A 78 [x0] H (fun v1 H2=>B3 P x2 v1 H2)
abbrev k4:Sk:=[(0,.v)]
def B5 (P:PT):Y k4:=fun x0 H=>
  newK H [(I 0),(slice none 0 0)] 31 (fun b1 H2=>B4 P x0 b1 H2)
def code:Code:=(.seq (R 0 2) (.seq (R 1 6) (.seq (R 2 14) (.seq (R 3 30) (.seq (.region 4 ⟨o1⟩ true) .ret)))))
theorem body:Tryz.f31.body=some code:=by kernel_rfl
theorem main P:Z 26 k4 (B5 P) code (ret P):=
  (r_seq (b (E k3 (B4 P))) (r_seq (b (E k2 (B3 P))) (r_seq (b (E k1 (B2 P))) (r_seq (b (E k0 (B1 P))) (r_seq (rT T0_ok mixed (.op 0 [] (.op 1 [] (.op 2 [] (.op 3 [] (.op 8 [] (.op 9 [] (.op 4 [0] (.op 5 [] (.op 6 [] (.op 7 [0] (.op 10 [0] (.op 11 [] (.op 12 [] (.op 13 [] .done)))))))))))))) (by kernel_rfl) (q1 P)) r_ret)))))
theorem ac (P:PT) (x0:Value) (H:AHeap) (h:B5 P x0 H):A 31 [x0] H P:=
  r_fn T0_ok (c:=code) (n:=26) Tryz.func31 body (by kernel_rfl) (main P) (En_mk (x0,()) (by kernel_rfl) ⟨by kernel_rfl,trivial⟩ h)

end F31
namespace F32
abbrev E:=En 31
def O (k:Nat):=ob Tryz.f32 (pth k)
abbrev R (i k:Nat):Code:=.region i ⟨O k⟩ false
def ret (P:PT):EP:=retE T0 31 Tryz.f32 P
abbrev k0:Sk:=[(1,J),(2,J),(3,.x)]
def B1 (P:PT):Y k0:=fun x1 x2 x3 H=>
  li H x3 0 (fun v1=>ld1 H x3 1 (fun v2=>A 95 [(agg ⟨[(I v1),v2]⟩),(I x1),(I x2)] H (fun v3 H4=>asB v3 (fun v5=>P (tuple ⟨[(bool v5),(I 0)]⟩) H4))))
abbrev k1:Sk:=[(8,J)]
def B2 (P:PT):Y k1:=fun x8 H=>
  P (tuple ⟨[(bool false),(I x8)]⟩) H
abbrev k2:Sk:=[(1,J),(2,J),(3,.x),(8,J)]
def B3 (P:PT):Y k2:=fun x1 x2 x3 x8 H=>
  pif ((x8:Int) != 0) (B2 P x8 H) (B1 P x1 x2 x3 H)
def o4:=O 12
def B4 (P:PT):Y k0:=fun x1 x2 x3 H=>
  li H x3 0 (fun v1=>ld1 H x3 1 (fun v2=>li H x3 0 (fun v3=>ld1 H x3 1 (fun v4=>A 56 [(agg ⟨[(I v3),v4]⟩),(I x1)] H (fun v5 H6=>asB v5 (fun v7=>(AHeap.le H H6)∧(pif v7 (li H6 x3 0 (fun v8=>ld1 H6 x3 1 (fun v9=>A 56 [(agg ⟨[(I v8),v9]⟩),(I x2)] H6 (fun v10 H11=>asB v10 (fun v12=>(AHeap.le H6 H11)∧(pif v12 (A 55 [(agg ⟨[(I v1),v2]⟩),(bool ((x1:Int) != x2))] H11 (fun v13 H14=>asI .i64 v13 (fun v15=>B3 P x1 x2 x3 v15 H14))) (A 55 [(agg ⟨[(I v1),v2]⟩),(bool false)] H11 (fun v16 H17=>asI .i64 v16 (fun v18=>B3 P x1 x2 x3 v18 H17))))))))) (A 55 [(agg ⟨[(I v1),v2]⟩),(bool false)] H6 (fun v19 H20=>asI .i64 v19 (fun v21=>B3 P x1 x2 x3 v21 H20))))))))))
theorem q4 (P:PT):QD Tryz.prog T0 31 o4 [(0,false),(1,false),(2,false),(3,true),(4,false),(5,false),(6,false),(7,true),(8,false),(9,false),(10,false),(11,false),(12,false),(13,false),(14,false),(15,false)] (En 31 k2 (B3 P)) k0 (B4 P):=fun _ _ _ _ _  => by kernel_rfl
abbrev k3:Sk:=[(0,.g [.i,.v]),(1,J),(2,J)]
def B5 (P:PT):Y k3:=fun x0a x0b x1 x2 H=>
  newK H [(I x0a),x0b] 31 (fun b1 H2=>B4 P x1 x2 b1 H2)
def code:Code:=(.seq (R 0 2) (.seq (.seq (.region 1 ⟨o4⟩ true) (.seq (R 2 26) (.cond (.tmp 25) (.seq (R 3 108) .ret) .skip))) (.seq (R 4 14) .ret)))
theorem body:Tryz.f32.body=some code:=by kernel_rfl
theorem main P:Z 31 k3 (B5 P) code (ret P):=
  (r_seq (b (E k0 (B4 P))) (r_seq (r_seq (rD T0_ok mixed [(0,false),(1,false),(2,false),(3,true),(4,false),(5,false),(6,false),(7,true),(8,false),(9,false),(10,false),(11,false),(12,false),(13,false),(14,false),(15,false)] (by kernel_rfl) (q4 P)) (r_seq (b (cnd 25 (E k1 (B2 P)) (E k0 (B1 P)))) (r_cond rfl (r_seq (b (ret P)) r_ret) r_skip))) (r_seq (b (ret P)) r_ret)))
theorem ac (P:PT) (x0a:Int) (x0b:Value) (x1 x2:Int) (H:AHeap) (h:B5 P x0a x0b x1 x2 H):A 32 [(agg ⟨[(I x0a),x0b]⟩),(I x1),(I x2)] H P:=
  r_fn T0_ok (c:=code) (n:=31) Tryz.func32 body (by kernel_rfl) (main P) (En_mk (x0a,x0b,x1,x2,()) (by kernel_rfl) ⟨by kernel_rfl,by kernel_rfl,by kernel_rfl,trivial⟩ h)

end F32
namespace F33
abbrev E:=En 36
def O (k:Nat):=ob Tryz.f33 (pth k)
abbrev R (i k:Nat):Code:=.region i ⟨O k⟩ false
def ret (P:PT):EP:=retE T0 36 Tryz.f33 P
abbrev k0:Sk:=[(1,J),(2,J),(3,.x)]
def B1 (P:PT):Y k0:=fun x1 x2 x3 H=>
  li H x3 0 (fun v1=>ld1 H x3 1 (fun v2=>A 96 [(agg ⟨[(I v1),v2]⟩),(I x1),(I x2)] H (fun v3 H4=>asB v3 (fun v5=>P (tuple ⟨[(bool v5),(I 0)]⟩) H4))))
abbrev k1:Sk:=[]
def B2 (P:PT):Y k1:=fun H=>
  P (tuple ⟨[(bool false),(I 2)]⟩) H
abbrev k2:Sk:=[(1,J),(2,J),(3,.x),(8,J)]
def B3 (P:PT):Y k2:=fun x1 x2 x3 x8 H=>
  A 91 [(I x1),(I 0),(I (i64.wrap (x8-1)))] H (fun v1 H2=>asB v1 (fun v3=>pif (!v3) (B2 P H2) (A 91 [(I x2),(I 0),(I (i64.wrap (x8-1)))] H2 (fun v4 H5=>asB v4 (fun v6=>pif (!v6) (B2 P H5) (pif ((x1:Int)==x2) (B2 P H5) (B1 P x1 x2 x3 H5)))))))
def B4 (P:PT):Y k0:=fun x1 x2 x3 H=>
  ld1 H x3 1 (fun v1=>lenK v1 (fun n2=>B3 P x1 x2 x3 (n2:Int) H))
def B5 (P:PT):Y k1:=fun H=>
  P (tuple ⟨[(bool false),(I 1)]⟩) H
def B6 (P:PT):Y k0:=fun x1 x2 x3 H=>
  li H x3 0 (fun v1=>ld1 H x3 1 (fun v2=>A 68 [(agg ⟨[(I v1),v2]⟩)] H (fun v3 H4=>asB v3 (fun v5=>pif (!v5) (B5 P H4) (B4 P x1 x2 x3 H4)))))
abbrev k3:Sk:=[(0,.g [.i,.v]),(1,J),(2,J)]
def B7 (P:PT):Y k3:=fun x0a x0b x1 x2 H=>
  newK H [(I x0a),x0b] 31 (fun b1 H2=>B6 P x1 x2 b1 H2)
def code:Code:=(.seq (R 0 2) (.seq (.seq (R 1 12) (.cond (.tmp 11) (.seq (R 2 52) .ret) .skip)) (.seq (R 3 14) (.seq (.seq (R 4 60) (.cond (.tmp 31) (.seq (R 5 244) .ret) .skip)) (.seq (R 6 62) .ret)))))
theorem body:Tryz.f33.body=some code:=by kernel_rfl
theorem main P:Z 36 k3 (B7 P) code (ret P):=
  (r_seq (b (E k0 (B6 P))) (r_seq (r_seq (b (cnd 11 (E k1 (B5 P)) (E k0 (B4 P)))) (r_cond rfl (r_seq (b (ret P)) r_ret) r_skip)) (r_seq (b (E k2 (B3 P))) (r_seq (r_seq (b (cnd 31 (E k1 (B2 P)) (E k0 (B1 P)))) (r_cond rfl (r_seq (b (ret P)) r_ret) r_skip)) (r_seq (b (ret P)) r_ret)))))
theorem ac (P:PT) (x0a:Int) (x0b:Value) (x1 x2:Int) (H:AHeap) (h:B7 P x0a x0b x1 x2 H):A 33 [(agg ⟨[(I x0a),x0b]⟩),(I x1),(I x2)] H P:=
  r_fn T0_ok (c:=code) (n:=36) Tryz.func33 body (by kernel_rfl) (main P) (En_mk (x0a,x0b,x1,x2,()) (by kernel_rfl) ⟨by kernel_rfl,by kernel_rfl,by kernel_rfl,trivial⟩ h)

end F33
namespace F55
abbrev E:=En 12
def O (k:Nat):=ob Tryz.f55 (pth k)
abbrev R (i k:Nat):Code:=.region i ⟨O k⟩ false
def ret (P:PT):EP:=retE T0 12 Tryz.f55 P
abbrev k0:Sk:=[]
def B1 (P:PT):Y k0:=fun H=>
  P (I 0) H
def B2 (P:PT):Y k0:=fun H=>
  P (I 1) H
def B3 (P:PT):Y k0:=fun H=>
  P (I 2) H
abbrev k1:Sk:=[(1,.b)]
def B4 (P:PT):Y k1:=fun x1 H=>
  pif (!x1) (B3 P H) (B1 P H)
abbrev k2:Sk:=[(1,.b),(2,.x)]
def B5 (P:PT):Y k2:=fun x1 x2 H=>
  li H x2 0 (fun v1=>ld1 H x2 1 (fun v2=>A 13 [(agg ⟨[(I v1),v2]⟩)] H (fun v3 H4=>asB v3 (fun v5=>pif (!v5) (B2 P H4) (B4 P x1 H4)))))
abbrev k3:Sk:=[(0,.g [.i,.v]),(1,.b)]
def B6 (P:PT):Y k3:=fun x0a x0b x1 H=>
  newK H [(I x0a),x0b] 31 (fun b1 H2=>B5 P x1 b1 H2)
def code:Code:=(.seq (R 0 2) (.seq (.block 0 (.seq (R 1 24) (.cond (.tmp 5) (.seq (R 2 100) .ret) (.seq (R 3 102) (.cond (.tmp 9) (.seq (R 4 412) .ret) .skip))))) (.seq (R 5 14) .ret)))
theorem body:Tryz.f55.body=some code:=by kernel_rfl
theorem main P:Z 12 k3 (B6 P) code (ret P):=
  (r_seq (b (E k2 (B5 P))) (r_seq (r_block (r_seq (b (cnd 5 (E k0 (B2 P)) (E k1 (B4 P)))) (r_cond rfl (r_seq (b (ret P)) r_ret) (r_seq (b (cnd 9 (E k0 (B3 P)) (E k0 (B1 P)))) (r_cond rfl (r_seq (b (ret P)) r_ret) r_skip))))) (r_seq (b (ret P)) r_ret)))
theorem ac (P:PT) (x0a:Int) (x0b:Value) (x1:Bool) (H:AHeap) (h:B6 P x0a x0b x1 H):A 55 [(agg ⟨[(I x0a),x0b]⟩),(bool x1)] H P:=
  r_fn T0_ok (c:=code) (n:=12) Tryz.func55 body (by kernel_rfl) (main P) (En_mk (x0a,x0b,x1,()) (by kernel_rfl) ⟨by kernel_rfl,by kernel_rfl,trivial⟩ h)

end F55
namespace F56
abbrev E:=En 11
def O (k:Nat):=ob Tryz.f56 (pth k)
abbrev R (i k:Nat):Code:=.region i ⟨O k⟩ false
def ret (P:PT):EP:=retE T0 11 Tryz.f56 P
abbrev k0:Sk:=[(1,J),(2,.x)]
def B1 (P:PT):Y k0:=fun x1 x2 H=>
  ld1 H x2 1 (fun v1=>A 115 [v1] H (fun v2 H3=>asI .i64 v2 (fun v4=>A 114 [(I x1),(I 0),(I (i64.wrap (v4-1)))] H3 (fun v5 H6=>asB v5 (fun v7=>P (bool v7) H6)))))
abbrev k1:Sk:=[(0,.g [.i,.v]),(1,J)]
def B2 (P:PT):Y k1:=fun x0a x0b x1 H=>
  newK H [(I x0a),x0b] 31 (fun b1 H2=>B1 P x1 b1 H2)
def code:Code:=(.seq (R 0 2) (.seq (R 1 6) .ret))
theorem body:Tryz.f56.body=some code:=by kernel_rfl
theorem main P:Z 11 k1 (B2 P) code (ret P):=
  (r_seq (b (E k0 (B1 P))) (r_seq (b (ret P)) r_ret))
theorem ac (P:PT) (x0a:Int) (x0b:Value) (x1:Int) (H:AHeap) (h:B2 P x0a x0b x1 H):A 56 [(agg ⟨[(I x0a),x0b]⟩),(I x1)] H P:=
  r_fn T0_ok (c:=code) (n:=11) Tryz.func56 body (by kernel_rfl) (main P) (En_mk (x0a,x0b,x1,()) (by kernel_rfl) ⟨by kernel_rfl,by kernel_rfl,trivial⟩ h)

end F56
namespace F60
abbrev E:=En 9
def O (k:Nat):=ob Tryz.f60 (pth k)
abbrev R (i k:Nat):Code:=.region i ⟨O k⟩ false
def ret (P:PT):EP:=retE T0 9 Tryz.f60 P
abbrev k0:Sk:=[(0,J),(1,.v),(4,.x)]
def B1 (P:PT):Y k0:=fun x0 x1 x4 H=>
  A 117 [x1] H (fun v1 H2=>pif (Value.oneCell' v1) (stK H2 x4 0 [(I x0),v1] (fun H4=>li H4 x4 0 (fun v5=>ld1 H4 x4 1 (fun v6=>P (agg ⟨[(I v5),v6]⟩) H4)))) False)
abbrev k1:Sk:=[(0,J),(1,.v)]
def B2 (P:PT):Y k1:=fun x0 x1 H=>
  newK H [(I 0),(slice none 0 0)] 31 (fun b1 H2=>B1 P x0 x1 b1 H2)
def code:Code:=(.seq (R 0 2) (.seq (R 1 6) .ret))
theorem body:Tryz.f60.body=some code:=by kernel_rfl
theorem main P:Z 9 k1 (B2 P) code (ret P):=
  (r_seq (b (E k0 (B1 P))) (r_seq (b (ret P)) r_ret))
theorem ac (P:PT) (x0:Int) (x1:Value) (H:AHeap) (h:B2 P x0 x1 H):A 60 [(I x0),x1] H P:=
  r_fn T0_ok (c:=code) (n:=9) Tryz.func60 body (by kernel_rfl) (main P) (En_mk (x0,x1,()) (by kernel_rfl) ⟨by kernel_rfl,by kernel_rfl,trivial⟩ h)

end F60
namespace F61
abbrev E:=En 20
def O (k:Nat):=ob Tryz.f61 (pth k)
abbrev R (i k:Nat):Code:=.region i ⟨O k⟩ false
def ret (P:PT):EP:=retE T0 20 Tryz.f61 P
abbrev k0:Sk:=[(1,.v),(2,.x)]
def o1:=O 6
def B1 (P:PT):Y k0:=fun x1 x2 H=>
  li H x2 0 (fun v1=>A 118 [(I v1)] H (fun v2 H3=>asB v2 (fun v4=>pif v4 (li H3 x2 0 (fun v5=>A 115 [x1] H3 (fun v6 H7=>asI .i64 v6 (fun v8=>(AHeap.le H3 H7)∧(pif ((v8:Int)==(i64.wrap (Int.tdiv (i64.wrap (3*v5)) 2))) (A 62 [x1,(func (.func 119) ⟨[]⟩ ⟨[(pointer (some ⟨x2,0,none⟩))]⟩)] H7 (fun v9 H10=>asB v9 (fun v11=>P (bool v11) H10))) (P (bool false) H7)))))) (P (bool false) H3))))
theorem q1 (P:PT):QD Tryz.prog T0 20 o1 [(0,false),(1,false),(2,false),(3,false),(5,false),(6,false),(7,false),(4,true),(8,false),(9,false),(10,false),(11,false),(12,false),(13,false),(14,false),(15,false)] (ret P) k0 (B1 P):=fun _ _ _ _  => by kernel_rfl
abbrev k1:Sk:=[(0,J),(1,.v)]
def B2 (P:PT):Y k1:=fun x0 x1 H=>
  newK H [(I x0)] 2 (fun b1 H2=>B1 P x1 b1 H2)
def code:Code:=(.seq (R 0 2) (.seq (.region 1 ⟨o1⟩ true) .ret))
theorem body:Tryz.f61.body=some code:=by kernel_rfl
theorem main P:Z 20 k1 (B2 P) code (ret P):=
  (r_seq (b (E k0 (B1 P))) (r_seq (rD T0_ok mixed [(0,false),(1,false),(2,false),(3,false),(5,false),(6,false),(7,false),(4,true),(8,false),(9,false),(10,false),(11,false),(12,false),(13,false),(14,false),(15,false)] (by kernel_rfl) (q1 P)) r_ret))
theorem ac (P:PT) (x0:Int) (x1:Value) (H:AHeap) (h:B2 P x0 x1 H):A 61 [(I x0),x1] H P:=
  r_fn T0_ok (c:=code) (n:=20) Tryz.func61 body (by kernel_rfl) (main P) (En_mk (x0,x1,()) (by kernel_rfl) ⟨by kernel_rfl,by kernel_rfl,trivial⟩ h)

end F61
namespace F62
abbrev E:=En 9
def O (k:Nat):=ob Tryz.f62 (pth k)
abbrev R (i k:Nat):Code:=.region i ⟨O k⟩ false
def ret (P:PT):EP:=retE T0 9 Tryz.f62 P
abbrev k0:Sk:=[(0,.v),(3,.x)]
def B1 (P:PT):Y k0:=fun x0 x3 H=>
  A 120 [x0,(func (.func 121) ⟨[]⟩ ⟨[(pointer (some ⟨x3,0,none⟩))]⟩)] H (fun v1 H2=>asB v1 (fun v3=>P (bool (!v3)) H2))
abbrev k1:Sk:=[(0,.v),(1,.v)]
def B2 (P:PT):Y k1:=fun x0 x1 H=>
  pif (Value.oneCell' x1) (newK H [x1] 77 (fun b1 H2=>B1 P x0 b1 H2)) False
def code:Code:=(.seq (R 0 2) (.seq (R 1 6) .ret))
theorem body:Tryz.f62.body=some code:=by kernel_rfl
theorem main P:Z 9 k1 (B2 P) code (ret P):=
  (r_seq (b (E k0 (B1 P))) (r_seq (b (ret P)) r_ret))
theorem ac (P:PT) (x0 x1:Value) (H:AHeap) (h:B2 P x0 x1 H):A 62 [x0,x1] H P:=
  r_fn T0_ok (c:=code) (n:=9) Tryz.func62 body (by kernel_rfl) (main P) (En_mk (x0,x1,()) (by kernel_rfl) ⟨by kernel_rfl,by kernel_rfl,trivial⟩ h)

end F62
namespace F63
abbrev E:=En 8
def O (k:Nat):=ob Tryz.f63 (pth k)
abbrev R (i k:Nat):Code:=.region i ⟨O k⟩ false
def ret (P:PT):EP:=retE T0 8 Tryz.f63 P
abbrev k0:Sk:=[(1,.x)]
def B1 (P:PT):Y k0:=fun x1 H=>
  li H x1 0 (fun v1=>li H x1 1 (fun v2=>P (bool (decide ((v1:Int)<v2))) H))
abbrev k1:Sk:=[(0,.g [.i,.i])]
def B2 (P:PT):Y k1:=fun x0a x0b H=>
  newK H [(I x0a),(I x0b)] 28 (fun b1 H2=>B1 P b1 H2)
def code:Code:=(.seq (R 0 2) (.seq (R 1 6) .ret))
theorem body:Tryz.f63.body=some code:=by kernel_rfl
theorem main P:Z 8 k1 (B2 P) code (ret P):=
  (r_seq (b (E k0 (B1 P))) (r_seq (b (ret P)) r_ret))
theorem ac (P:PT) (x0a x0b:Int) (H:AHeap) (h:B2 P x0a x0b H):A 63 [(agg ⟨[(I x0a),(I x0b)]⟩)] H P:=
  r_fn T0_ok (c:=code) (n:=8) Tryz.func63 body (by kernel_rfl) (main P) (En_mk (x0a,x0b,()) (by kernel_rfl) ⟨by kernel_rfl,trivial⟩ h)

end F63
namespace F64
abbrev E:=En 25
def O (k:Nat):=ob Tryz.f64 (pth k)
abbrev R (i k:Nat):Code:=.region i ⟨O k⟩ false
def ret (P:PT):EP:=retE T0 25 Tryz.f64 P
abbrev k0:Sk:=[]
def B1 (P:PT):Y k0:=fun H=>
  P (bool true) H
abbrev k1:Sk:=[(0,.v),(1,.v),(5,J)]
def B3 (P:PT) (N2:Y k1):Y k1:=fun x0 x1 x5 H=>
  N2 x0 x1 (i64.wrap (x5-1)) H
def B4 (P:PT) (N2:Y k1):Y k0:=fun H=>
  P (bool false) H
def o5:=O 840
def B5 (P:PT) (N2:Y k1):Y k1:=fun x0 x1 x5 H=>
  idxK x0 x5 2 (fun b1 o2=>li H b1 o2 (fun v3=>li H b1 (o2+1) (fun v4=>idxK x0 (i64.wrap (x5-1)) 2 (fun b5 o6=>li H b5 o6 (fun v7=>li H b5 (o6+1) (fun v8=>callV Tryz.prog T0 x1 [(agg ⟨[(I v3),(I v4)]⟩),(agg ⟨[(I v7),(I v8)]⟩)] H (fun v9 H10=>asI .i64 v9 (fun v11=>pif (decide ((v11:Int)<0)) (B4 P N2 H10) (B3 P N2 x0 x1 x5 H10)))))))))
theorem q5 (P:PT) (N2:Y k1):QD Tryz.prog T0 25 o5 [(0,false),(1,false),(2,false),(3,false),(4,false),(5,false),(6,false),(7,false),(8,false),(9,false),(10,false),(11,false)] (cnd 24 (En 25 k0 (B4 P N2)) (En 25 k1 (B3 P N2))) k1 (B5 P N2):=fun _ _ _ _ _  => by kernel_rfl
def o6:=O 208
def B6 (P:PT) (N2:Y k1):Y k1:=fun x0 x1 x5 H=>
  pif (decide ((x5:Int)>0)) (B5 P N2 x0 x1 x5 H) (B1 P H)
def L2 (P:PT):Y k1:=fun x0 x1 x5 H=>
  ∃ (I:Y k1) (μ:NTy k1 (AHeap→Nat)),I x0 x1 x5 H∧∀ y0 y1 y5 G,I y0 y1 y5 G→B6 P (fun z0 z1 z5 G'=>I z0 z1 z5 G'∧μ z0 z1 z5 G'<μ y0 y1 y5 G) y0 y1 y5 G
theorem l2 P:LQ k1 (L2 P) (B6 P):=fun ⟨_,_,_,_⟩ _ ⟨I,μ,h0,hI⟩=>⟨apT _ I,apT _ μ,h0,fun ⟨_,_,_,_⟩ _ h=>hI _ _ _ _  h⟩
abbrev k2:Sk:=[(0,.v),(1,.v)]
def B7 (P:PT):Y k2:=fun x0 x1 H=>
  lenK x0 (fun n1=>L2 P x0 x1 (i64.wrap ((n1:Int)-1)) H)
def B8 (P:PT):Y k2:=fun x0 x1 H=>
  B7 P x0 x1 H
def code:Code:=(.seq (R 0 2) (.seq (.seq (R 1 12) (.block 0 (.loop (.seq (.seq (R 2 208) (.cond (.tmp 10) .skip (.exit 0))) (.seq (.block 1 (.seq (.region 4 ⟨o5⟩ true) (.cond (.tmp 24) (.seq (R 5 3364) .ret) .skip))) (R 3 211)))))) (.seq (R 6 14) .ret)))
theorem body:Tryz.f64.body=some code:=by kernel_rfl
theorem main P:Z 25 k2 (B8 P) code (ret P):=
  (r_seq (b (E k2 (B7 P))) (r_seq (r_seq (b (E k1 (L2 P))) (r_block (rL (l2 P) (fun N2=>(r_seq (r_seq (b (cnd 10 (E k1 (B5 P N2)) (E k0 (B1 P)))) (r_cond rfl r_skip (r_exit (fun _ _ h=>h)))) (r_seq (r_block (r_seq (rD T0_ok mixed [(0,false),(1,false),(2,false),(3,false),(4,false),(5,false),(6,false),(7,false),(8,false),(9,false),(10,false),(11,false)] (by kernel_rfl) (q5 P N2)) (r_cond rfl (r_seq (b (ret P)) r_ret) r_skip))) (b (E k1 N2)))))))) (r_seq (b (ret P)) r_ret)))
theorem ac (P:PT) (x0 x1:Value) (H:AHeap) (h:B8 P x0 x1 H):A 64 [x0,x1] H P:=
  r_fn T0_ok (c:=code) (n:=25) Tryz.func64 body (by kernel_rfl) (main P) (En_mk (x0,x1,()) (by kernel_rfl) ⟨by kernel_rfl,by kernel_rfl,trivial⟩ h)

end F64
namespace F65
abbrev E:=En 8
def O (k:Nat):=ob Tryz.f65 (pth k)
abbrev R (i k:Nat):Code:=.region i ⟨O k⟩ false
def ret (P:PT):EP:=retE T0 8 Tryz.f65 P
abbrev k0:Sk:=[(2,.x),(3,.x)]
def o1:=O 6
def B1 (P:PT):Y k0:=fun x2 x3 H=>
  A 122 [(slice (some ⟨x2,0,none⟩) 2 (2+1)),(slice (some ⟨x3,0,none⟩) 2 (2+1))] H (fun v1 H2=>asI .i64 v1 (fun v3=>P (I v3) H2))
theorem q1 (P:PT):QD Tryz.prog T0 8 o1 [(0,false),(1,false),(2,false),(3,false)] (ret P) k0 (B1 P):=fun _ _ _ _  => by kernel_rfl
abbrev k1:Sk:=[(0,.g [.i,.i]),(1,.g [.i,.i])]
def B2 (P:PT):Y k1:=fun x0a x0b x1a x1b H=>
  newK H [(I x0a),(I x0b)] 28 (fun b1 H2=>newK H2 [(I x1a),(I x1b)] 28 (fun b3 H4=>B1 P b1 b3 H4))
def code:Code:=(.seq (R 0 2) (.seq (.region 1 ⟨o1⟩ true) .ret))
theorem body:Tryz.f65.body=some code:=by kernel_rfl
theorem main P:Z 8 k1 (B2 P) code (ret P):=
  (r_seq (b (E k0 (B1 P))) (r_seq (rD T0_ok mixed [(0,false),(1,false),(2,false),(3,false)] (by kernel_rfl) (q1 P)) r_ret))
theorem ac (P:PT) (x0a x0b x1a x1b:Int) (H:AHeap) (h:B2 P x0a x0b x1a x1b H):A 65 [(agg ⟨[(I x0a),(I x0b)]⟩),(agg ⟨[(I x1a),(I x1b)]⟩)] H P:=
  r_fn T0_ok (c:=code) (n:=8) Tryz.func65 body (by kernel_rfl) (main P) (En_mk (x0a,x0b,x1a,x1b,()) (by kernel_rfl) ⟨by kernel_rfl,by kernel_rfl,trivial⟩ h)

end F65
namespace F66
abbrev E:=En 33
def O (k:Nat):=ob Tryz.f66 (pth k)
abbrev R (i k:Nat):Code:=.region i ⟨O k⟩ false
def ret (P:PT):EP:=retE T0 33 Tryz.f66 P
abbrev k0:Sk:=[(5,.v)]
def B1 (P:PT):Y k0:=fun x5 H=>
  A 123 [x5,(func (.func 124) ⟨[]⟩ ⟨[]⟩)] H (fun v1 H2=>asB v1 (fun v3=>P (bool v3) H2))
abbrev k1:Sk:=[(5,.v),(10,.v),(11,J),(12,J)]
def o3:=O 935
def B3 (P:PT) (N2:Y k1):Y k1:=fun x5 x10 x11 x12 H=>
  N2 x5 x10 x11 (i64.wrap (x12+1)) H
abbrev k2:Sk:=[(5,.v),(7,.x),(10,.v),(11,J),(12,J)]
def B4 (P:PT) (N2:Y k1):Y k2:=fun x5 x7 x10 x11 x12 H=>
  li H x7 1 (fun v1=>idxK x5 v1 1 (fun b2 o3=>li H b2 o3 (fun v4=>idxK x5 v1 1 (fun b5 o6=>stK H b5 o6 [(I (i64.wrap (v4+1)))] (fun H7=>B3 P N2 x5 x10 x11 x12 H7)))))
def B5 (P:PT) (N2:Y k1):Y k2:=fun x5 x7 x10 x11 x12 H=>
  li H x7 0 (fun v1=>idxK x5 v1 1 (fun b2 o3=>li H b2 o3 (fun v4=>idxK x5 v1 1 (fun b5 o6=>stK H b5 o6 [(I (i64.wrap (v4+1)))] (fun H7=>B4 P N2 x5 x7 x10 x11 x12 H7)))))
def o6:=O 3736
def B6 (P:PT) (N2:Y k1):Y k1:=fun x5 x10 x11 x12 H=>
  idxK x10 x12 2 (fun b1 o2=>li H b1 o2 (fun v3=>li H b1 (o2+1) (fun v4=>newK H [(I 0),(I 0)] 28 (fun b5 H6=>stK H6 b5 0 [(I v3),(I v4)] (fun H7=>B5 P N2 x5 b5 x10 x11 x12 H7)))))
def B7 (P:PT) (N2:Y k1):Y k1:=fun x5 x10 x11 x12 H=>
  pif (decide ((x12:Int)<x11)) (B6 P N2 x5 x10 x11 x12 H) (B1 P x5 H)
def L2 (P:PT):Y k1:=fun x5 x10 x11 x12 H=>
  ∃ (I:Y k1) (μ:NTy k1 (AHeap→Nat)),I x5 x10 x11 x12 H∧∀ y5 y10 y11 y12 G,I y5 y10 y11 y12 G→B7 P (fun z5 z10 z11 z12 G'=>I z5 z10 z11 z12 G'∧μ z5 z10 z11 z12 G'<μ y5 y10 y11 y12 G) y5 y10 y11 y12 G
theorem l2 P:LQ k1 (L2 P) (B7 P):=fun ⟨_,_,_,_,_⟩ _ ⟨I,μ,h0,hI⟩=>⟨apT _ I,apT _ μ,h0,fun ⟨_,_,_,_,_⟩ _ h=>hI _ _ _ _ _  h⟩
abbrev k3:Sk:=[(1,.v),(5,.v)]
def B8 (P:PT):Y k3:=fun x1 x5 H=>
  lenK x1 (fun n1=>L2 P x5 x1 (n1:Int) 0 H)
abbrev k4:Sk:=[(0,J),(1,.v)]
def B9 (P:PT):Y k4:=fun x0 x1 H=>
  mkR H 8 3 [(I 0)] x0 x0 (fun v2 H1=>B8 P x1 v2 H1)
def B10 (P:PT):Y k4:=fun x0 x1 H=>
  B9 P x0 x1 H
def code:Code:=(.seq (R 0 2) (.seq (R 1 6) (.seq (.seq (R 2 28) (.block 0 (.loop (.seq (R 3 232) (.seq (.cond (.tmp 13) .skip (.exit 0)) (.seq (.block 1 (.seq (R 4 3736) (.seq (R 5 7474) (R 6 7475)))) (R 7 935))))))) (.seq (R 8 30) .ret))))
theorem body:Tryz.f66.body=some code:=by kernel_rfl
theorem main P:Z 33 k4 (B10 P) code (ret P):=
  (r_seq (b (E k4 (B9 P))) (r_seq (b (E k3 (B8 P))) (r_seq (r_seq (b (E k1 (L2 P))) (r_block (rL (l2 P) (fun N2=>(r_seq (b (cnd 13 (E k1 (B6 P N2)) (E k0 (B1 P)))) (r_seq (r_cond rfl r_skip (r_exit (fun _ _ h=>h))) (r_seq (r_block (r_seq (b (E k2 (B5 P N2))) (r_seq (b (E k2 (B4 P N2))) (b (E k1 (B3 P N2)))))) (b (E k1 N2))))))))) (r_seq (b (ret P)) r_ret))))
theorem ac (P:PT) (x0:Int) (x1:Value) (H:AHeap) (h:B10 P x0 x1 H):A 66 [(I x0),x1] H P:=
  r_fn T0_ok (c:=code) (n:=33) Tryz.func66 body (by kernel_rfl) (main P) (En_mk (x0,x1,()) (by kernel_rfl) ⟨by kernel_rfl,by kernel_rfl,trivial⟩ h)

end F66
namespace F68
abbrev E:=En 56
def O (k:Nat):=ob Tryz.f68 (pth k)
abbrev R (i k:Nat):Code:=.region i ⟨O k⟩ false
def ret (P:PT):EP:=retE T0 56 Tryz.f68 P
abbrev k0:Sk:=[]
def B1 (P:PT):Y k0:=fun H=>
  P (bool true) H
abbrev k1:Sk:=[(1,.x),(3,J)]
def o3:=O 467
def B3 (P:PT) (N2:Y k1):Y k1:=fun x1 x3 H=>
  N2 x1 (i64.wrap (x3+1)) H
def B4 (P:PT) (N2:Y k1):Y k0:=fun H=>
  P (bool false) H
def o5:=O 1864
def B5 (P:PT) (N2:Y k1):Y k1:=fun x1 x3 H=>
  ld1 H x1 1 (fun v1=>idxK v1 x3 2 (fun b2 o3=>li H b2 o3 (fun v4=>ld1 H x1 1 (fun v5=>idxK v5 x3 2 (fun b6 o7=>li H b6 (o7+1) (fun v8=>pif (decide ((v4:Int)>v8)) (B4 P N2 H) (pif (decide ((x3:Int)>0)) (ld1 H x1 1 (fun v9=>idxK v9 x3 2 (fun b10 o11=>li H b10 o11 (fun v12=>li H b10 (o11+1) (fun v13=>ld1 H x1 1 (fun v14=>idxK v14 (i64.wrap (x3-1)) 2 (fun b15 o16=>li H b15 o16 (fun v17=>li H b15 (o16+1) (fun v18=>A 131 [(agg ⟨[(I v12),(I v13)]⟩),(agg ⟨[(I v17),(I v18)]⟩)] H (fun v19 H20=>asB v19 (fun v21=>pif v21 (B4 P N2 H20) (B3 P N2 x1 x3 H20)))))))))))) (B3 P N2 x1 x3 H))))))))
theorem q5 (P:PT) (N2:Y k1):QD Tryz.prog T0 56 o5 [(0,false),(1,false),(2,false),(3,false),(4,false),(5,false),(6,false),(7,false),(8,false),(9,false),(10,false),(11,false),(12,false),(13,false),(14,false),(15,false),(16,false),(17,false),(18,false),(19,false),(20,false),(21,false),(22,false),(23,false),(24,false),(25,false),(26,false),(27,false),(28,false),(29,false),(30,false)] (cnd 55 (En 56 k0 (B4 P N2)) (En 56 k1 (B3 P N2))) k1 (B5 P N2):=fun _ _ _ _  => by kernel_rfl
def B6 (P:PT) (N2:Y k1):Y k1:=fun x1 x3 H=>
  ld1 H x1 1 (fun v1=>lenK v1 (fun n2=>pif (decide ((x3:Int)<(n2:Int))) (B5 P N2 x1 x3 H) (B1 P H)))
def L2 (P:PT):Y k1:=fun x1 x3 H=>
  ∃ (I:Y k1) (μ:NTy k1 (AHeap→Nat)),I x1 x3 H∧∀ y1 y3 G,I y1 y3 G→B6 P (fun z1 z3 G'=>I z1 z3 G'∧μ z1 z3 G'<μ y1 y3 G) y1 y3 G
theorem l2 P:LQ k1 (L2 P) (B6 P):=fun ⟨_,_,_⟩ _ ⟨I,μ,h0,hI⟩=>⟨apT _ I,apT _ μ,h0,fun ⟨_,_,_⟩ _ h=>hI _ _ _  h⟩
abbrev k2:Sk:=[(1,.x)]
def o7:=O 28
def B7 (P:PT):Y k2:=fun x1 H=>
  L2 P x1 0 H
def B8 (P:PT):Y k0:=fun H=>
  P (bool false) H
def B9 (P:PT):Y k2:=fun x1 H=>
  li H x1 0 (fun v1=>ld1 H x1 1 (fun v2=>A 129 [(I v1),v2] H (fun v3 H4=>asI .i64 v3 (fun v5=>pif ((v5:Int) != 0) (B8 P H4) (li H4 x1 0 (fun v6=>ld1 H4 x1 1 (fun v7=>A 130 [(I v6),v7] H4 (fun v8 H9=>asB v8 (fun v10=>pif (!v10) (B8 P H9) (B7 P x1 H9))))))))))
abbrev k3:Sk:=[(0,.g [.i,.v])]
def B10 (P:PT):Y k3:=fun x0a x0b H=>
  newK H [(I x0a),x0b] 31 (fun b1 H2=>B9 P b1 H2)
def code:Code:=(.seq (R 0 2) (.seq (.seq (R 1 12) (.cond (.tmp 17) (.seq (R 2 52) .ret) .skip)) (.seq (.seq (R 3 28) (.block 0 (.loop (.seq (.seq (R 4 464) (.cond (.tmp 22) .skip (.exit 0))) (.seq (.block 1 (.seq (.region 6 ⟨o5⟩ true) (.cond (.tmp 55) (.seq (R 7 7460) .ret) .skip))) (R 5 467)))))) (.seq (R 8 30) .ret))))
theorem body:Tryz.f68.body=some code:=by kernel_rfl
theorem main P:Z 56 k3 (B10 P) code (ret P):=
  (r_seq (b (E k2 (B9 P))) (r_seq (r_seq (b (cnd 17 (E k0 (B8 P)) (E k2 (B7 P)))) (r_cond rfl (r_seq (b (ret P)) r_ret) r_skip)) (r_seq (r_seq (b (E k1 (L2 P))) (r_block (rL (l2 P) (fun N2=>(r_seq (r_seq (b (cnd 22 (E k1 (B5 P N2)) (E k0 (B1 P)))) (r_cond rfl r_skip (r_exit (fun _ _ h=>h)))) (r_seq (r_block (r_seq (rD T0_ok mixed [(0,false),(1,false),(2,false),(3,false),(4,false),(5,false),(6,false),(7,false),(8,false),(9,false),(10,false),(11,false),(12,false),(13,false),(14,false),(15,false),(16,false),(17,false),(18,false),(19,false),(20,false),(21,false),(22,false),(23,false),(24,false),(25,false),(26,false),(27,false),(28,false),(29,false),(30,false)] (by kernel_rfl) (q5 P N2)) (r_cond rfl (r_seq (b (ret P)) r_ret) r_skip))) (b (E k1 N2)))))))) (r_seq (b (ret P)) r_ret))))
theorem ac (P:PT) (x0a:Int) (x0b:Value) (H:AHeap) (h:B10 P x0a x0b H):A 68 [(agg ⟨[(I x0a),x0b]⟩)] H P:=
  r_fn T0_ok (c:=code) (n:=56) Tryz.func68 body (by kernel_rfl) (main P) (En_mk (x0a,x0b,()) (by kernel_rfl) ⟨by kernel_rfl,trivial⟩ h)

end F68
namespace F71
abbrev E:=En 14
def O (k:Nat):=ob Tryz.f71 (pth k)
abbrev R (i k:Nat):Code:=.region i ⟨O k⟩ false
def ret (P:PT):EP:=retE T0 14 Tryz.f71 P
abbrev k0:Sk:=[(5,.x),(6,.x)]
def o1:=O 62
def B1 (P:PT):Y k0:=fun x5 x6 H=>
  ldI .u64 H x5 0 (fun v1=>li H x6 0 (fun v2=>li H x6 0 (fun v3=>P (tuple ⟨[(int .u64 v1),(I v2),(bool ((v3:Int) != (-1)))]⟩) H)))
theorem q1 (P:PT):QD Tryz.prog T0 14 o1 [(0,false),(1,false),(2,false),(3,false),(4,false),(5,false),(6,false)] (ret P) k0 (B1 P):=fun _ _ _ _  => by kernel_rfl
abbrev k1:Sk:=[(1,.x),(5,.x),(6,.x)]
def B2 (P:PT):Y k1:=fun x1 x5 x6 H=>
  li H x1 0 (fun v1=>ld1 H x1 1 (fun v2=>A 109 [(agg ⟨[(I v1),v2]⟩),(func (.func 134) ⟨[]⟩ ⟨[(pointer (some ⟨x1,0,none⟩)),(pointer (some ⟨x6,0,none⟩)),(pointer (some ⟨x5,0,none⟩))]⟩)] H (fun v3 H4=>asB v3 (fun v5=>B1 P x5 x6 H4))))
abbrev k2:Sk:=[(1,.x),(5,.x)]
def B3 (P:PT):Y k2:=fun x1 x5 H=>
  newK H [(I 0)] 2 (fun b1 H2=>stK H2 b1 0 [(I (-1))] (fun H3=>B2 P x1 x5 b1 H3))
abbrev k3:Sk:=[(1,.x)]
def B4 (P:PT):Y k3:=fun x1 H=>
  newK H [(int .u64 0)] 83 (fun b1 H2=>B3 P x1 b1 H2)
abbrev k4:Sk:=[(0,.g [.i,.v])]
def B5 (P:PT):Y k4:=fun x0a x0b H=>
  newK H [(I x0a),x0b] 31 (fun b1 H2=>B4 P b1 H2)
def code:Code:=(.seq (R 0 2) (.seq (R 1 6) (.seq (R 2 14) (.seq (R 3 30) (.seq (.region 4 ⟨o1⟩ true) .ret)))))
theorem body:Tryz.f71.body=some code:=by kernel_rfl
theorem main P:Z 14 k4 (B5 P) code (ret P):=
  (r_seq (b (E k3 (B4 P))) (r_seq (b (E k2 (B3 P))) (r_seq (b (E k1 (B2 P))) (r_seq (b (E k0 (B1 P))) (r_seq (rD T0_ok mixed [(0,false),(1,false),(2,false),(3,false),(4,false),(5,false),(6,false)] (by kernel_rfl) (q1 P)) r_ret)))))
theorem ac (P:PT) (x0a:Int) (x0b:Value) (H:AHeap) (h:B5 P x0a x0b H):A 71 [(agg ⟨[(I x0a),x0b]⟩)] H P:=
  r_fn T0_ok (c:=code) (n:=14) Tryz.func71 body (by kernel_rfl) (main P) (En_mk (x0a,x0b,()) (by kernel_rfl) ⟨by kernel_rfl,trivial⟩ h)

end F71
namespace F72
abbrev E:=En 18
def O (k:Nat):=ob Tryz.f72 (pth k)
abbrev R (i k:Nat):Code:=.region i ⟨O k⟩ false
def ret (P:PT):EP:=retE T0 18 Tryz.f72 P
abbrev k0:Sk:=[]
def B1 (P:PT):Y k0:=fun H=>
  P (I 0) H
def B2 (P:PT):Y k0:=fun H=>
  P (I 3) H
abbrev k1:Sk:=[(2,J),(3,.x)]
def B3 (P:PT):Y k1:=fun x2 x3 H=>
  li H x3 0 (fun v1=>pif (decide ((v1:Int)>x2)) (B2 P H) (B1 P H))
abbrev k2:Sk:=[(7,J)]
def B4 (P:PT):Y k2:=fun x7 H=>
  P (I x7) H
abbrev k3:Sk:=[(2,J),(3,.x),(7,J)]
def B5 (P:PT):Y k3:=fun x2 x3 x7 H=>
  pif ((x7:Int) != 0) (B4 P x7 H) (B3 P x2 x3 H)
abbrev k4:Sk:=[(1,.b),(2,J),(3,.x)]
def B6 (P:PT):Y k4:=fun x1 x2 x3 H=>
  li H x3 0 (fun v1=>ld1 H x3 1 (fun v2=>A 55 [(agg ⟨[(I v1),v2]⟩),(bool x1)] H (fun v3 H4=>asI .i64 v3 (fun v5=>B5 P x2 x3 v5 H4))))
abbrev k5:Sk:=[(0,.g [.i,.v]),(1,.b),(2,J)]
def B7 (P:PT):Y k5:=fun x0a x0b x1 x2 H=>
  newK H [(I x0a),x0b] 31 (fun b1 H2=>B6 P x1 x2 b1 H2)
def code:Code:=(.seq (R 0 2) (.seq (.seq (R 1 12) (.seq (R 2 26) (.cond (.tmp 12) (.seq (R 3 108) .ret) .skip))) (.seq (.seq (R 4 28) (.cond (.tmp 17) (.seq (R 5 116) .ret) .skip)) (.seq (R 6 30) .ret))))
theorem body:Tryz.f72.body=some code:=by kernel_rfl
theorem main P:Z 18 k5 (B7 P) code (ret P):=
  (r_seq (b (E k4 (B6 P))) (r_seq (r_seq (b (E k3 (B5 P))) (r_seq (b (cnd 12 (E k2 (B4 P)) (E k1 (B3 P)))) (r_cond rfl (r_seq (b (ret P)) r_ret) r_skip))) (r_seq (r_seq (b (cnd 17 (E k0 (B2 P)) (E k0 (B1 P)))) (r_cond rfl (r_seq (b (ret P)) r_ret) r_skip)) (r_seq (b (ret P)) r_ret))))
theorem ac (P:PT) (x0a:Int) (x0b:Value) (x1:Bool) (x2:Int) (H:AHeap) (h:B7 P x0a x0b x1 x2 H):A 72 [(agg ⟨[(I x0a),x0b]⟩),(bool x1),(I x2)] H P:=
  r_fn T0_ok (c:=code) (n:=18) Tryz.func72 body (by kernel_rfl) (main P) (En_mk (x0a,x0b,x1,x2,()) (by kernel_rfl) ⟨by kernel_rfl,by kernel_rfl,by kernel_rfl,trivial⟩ h)

end F72
namespace F73
abbrev E:=En 14
def O (k:Nat):=ob Tryz.f73 (pth k)
abbrev R (i k:Nat):Code:=.region i ⟨O k⟩ false
def ret (P:PT):EP:=retE T0 14 Tryz.f73 P
abbrev k0:Sk:=[(1,.x),(3,.x),(4,J)]
def B2 (P:PT) (N1:Y k0):Y k0:=fun x1 x3 x4 H=>
  N1 x1 x3 (i64.wrap (x4+1)) H
abbrev k1:Sk:=[(3,.x)]
def B3 (P:PT) (N1:Y k0):Y k1:=fun x3 H=>
  ldI .u64 H x3 0 (fun v1=>P (int .u64 v1) H)
def B4 (P:PT) (N1:Y k0):Y k0:=fun x1 x3 x4 H=>
  ld1 H x1 1 (fun v1=>A 115 [v1] H (fun v2 H3=>asI .i64 v2 (fun v4=>A 136 [(I v4),(I x4),(func (.func 137) ⟨[]⟩ ⟨[(pointer (some ⟨x3,0,none⟩)),(pointer (some ⟨x1,0,none⟩))]⟩)] H3 (fun v5 H6=>asB v5 (fun v7=>pif v7 (B3 P N1 x3 H6) (B2 P N1 x1 x3 x4 H6))))))
def L1 (P:PT):Y k0:=fun x1 x3 x4 H=>
  ∃ (I:Y k0) (μ:NTy k0 (AHeap→Nat)),I x1 x3 x4 H∧∀ y1 y3 y4 G,I y1 y3 y4 G→B4 P (fun z1 z3 z4 G'=>I z1 z3 z4 G'∧μ z1 z3 z4 G'<μ y1 y3 y4 G) y1 y3 y4 G
theorem l1 P:LQ k0 (L1 P) (B4 P):=fun ⟨_,_,_,_⟩ _ ⟨I,μ,h0,hI⟩=>⟨apT _ I,apT _ μ,h0,fun ⟨_,_,_,_⟩ _ h=>hI _ _ _ _  h⟩
abbrev k2:Sk:=[(1,.x),(3,.x)]
def B5 (P:PT):Y k2:=fun x1 x3 H=>
  L1 P x1 x3 0 H
abbrev k3:Sk:=[(1,.x)]
def B6 (P:PT):Y k3:=fun x1 H=>
  newK H [(int .u64 0)] 83 (fun b1 H2=>B5 P x1 b1 H2)
abbrev k4:Sk:=[(0,.g [.i,.v])]
def B7 (P:PT):Y k4:=fun x0a x0b H=>
  newK H [(I x0a),x0b] 31 (fun b1 H2=>B6 P b1 H2)
def code:Code:=(.seq (R 0 2) (.seq (R 1 6) (.seq (R 2 14) (.block 0 (.loop (.seq (.block 1 (.seq (R 4 480) (.cond (.tmp 12) (.seq (R 5 1924) .ret) .skip))) (R 3 121)))))))
theorem body:Tryz.f73.body=some code:=by kernel_rfl
theorem main P:Z 14 k4 (B7 P) code (ret P):=
  (r_seq (b (E k3 (B6 P))) (r_seq (b (E k2 (B5 P))) (r_seq (b (E k0 (L1 P))) (r_block (rL (l1 P) (fun N1=>(r_seq (r_block (r_seq (b (cnd 12 (E k1 (B3 P N1)) (E k0 (B2 P N1)))) (r_cond rfl (r_seq (b (ret P)) r_ret) r_skip))) (b (E k0 N1)))))))))
theorem ac (P:PT) (x0a:Int) (x0b:Value) (H:AHeap) (h:B7 P x0a x0b H):A 73 [(agg ⟨[(I x0a),x0b]⟩)] H P:=
  r_fn T0_ok (c:=code) (n:=14) Tryz.func73 body (by kernel_rfl) (main P) (En_mk (x0a,x0b,()) (by kernel_rfl) ⟨by kernel_rfl,trivial⟩ h)

end F73
namespace F74
abbrev E:=En 5
def O (k:Nat):=ob Tryz.f74 (pth k)
abbrev R (i k:Nat):Code:=.region i ⟨O k⟩ false
def ret (P:PT):EP:=retE T0 5 Tryz.f74 P
abbrev k0:Sk:=[(0,.i .u64)]
def B1 (P:PT):Y k0:=fun x0 H=>
  A 139 [(int .u64 x0)] H (fun v1 H2=>asI .i64 v1 (fun v3=>P (I v3) H2))
def B2 (P:PT):Y k0:=fun x0 H=>
  B1 P x0 H
def code:Code:=(.seq (R 0 2) (.seq (R 1 6) .ret))
theorem body:Tryz.f74.body=some code:=by kernel_rfl
theorem main P:Z 5 k0 (B2 P) code (ret P):=
  (r_seq (b (E k0 (B1 P))) (r_seq (b (ret P)) r_ret))
theorem ac (P:PT) (x0:Int) (H:AHeap) (h:B2 P x0 H):A 74 [(int .u64 x0)] H P:=
  r_fn T0_ok (c:=code) (n:=5) Tryz.func74 body (by kernel_rfl) (main P) (En_mk (x0,()) (by kernel_rfl) ⟨by kernel_rfl,trivial⟩ h)

end F74
namespace F76
abbrev E:=En 30
def O (k:Nat):=ob Tryz.f76 (pth k)
abbrev R (i k:Nat):Code:=.region i ⟨O k⟩ false
def ret (P:PT):EP:=retE T0 30 Tryz.f76 P
abbrev k0:Sk:=[(3,.x)]
def B1 (P:PT):Y k0:=fun x3 H=>
  ld1 H x3 0 (fun v1=>P v1 H)
abbrev k1:Sk:=[(1,.x),(3,.x),(12,.v),(13,J),(14,J)]
def B3 (P:PT) (N2:Y k1):Y k1:=fun x1 x3 x12 x13 x14 H=>
  N2 x1 x3 x12 x13 (i64.wrap (x14+1)) H
abbrev k2:Sk:=[]
def B4 (P:PT) (N2:Y k1):Y k2:=fun H=>
  P (slice none 0 0) H
abbrev k3:Sk:=[(1,.x),(3,.x),(6,.b),(12,.v),(13,J),(14,J)]
def B5 (P:PT) (N2:Y k1):Y k3:=fun x1 x3 x6 x12 x13 x14 H=>
  pif (!x6) (B4 P N2 H) (B3 P N2 x1 x3 x12 x13 x14 H)
abbrev k4:Sk:=[(1,.x),(3,.x),(4,J),(5,.x),(12,.v),(13,J),(14,J)]
def B6 (P:PT) (N2:Y k1):Y k4:=fun x1 x3 x4 x5 x12 x13 x14 H=>
  li H x1 0 (fun v1=>ld1 H x1 1 (fun v2=>ld1 H x5 0 (fun v3=>A 126 [(agg ⟨[(I v1),v2]⟩),v3,(bool ((x4:Int)==0)),(func (.func 141) ⟨[]⟩ ⟨[(pointer (some ⟨x5,0,none⟩)),(pointer (some ⟨x3,0,none⟩))]⟩)] H (fun v4 H5=>A 128 [v4] H5 (fun v7 H8=>asB v7 (fun v9=>B5 P N2 x1 x3 v9 x12 x13 x14 H8))))))
def B7 (P:PT) (N2:Y k1):Y k1:=fun x1 x3 x12 x13 x14 H=>
  idxK x12 x14 1 (fun b1 o2=>ld1 H b1 o2 (fun v3=>newK H [(slice none 0 0)] 42 (fun b4 H5=>pif (Value.oneCell' v3) (stK H5 b4 0 [v3] (fun H6=>B6 P N2 x1 x3 x14 b4 x12 x13 x14 H6)) False)))
def B8 (P:PT) (N2:Y k1):Y k1:=fun x1 x3 x12 x13 x14 H=>
  pif (decide ((x14:Int)<x13)) (B7 P N2 x1 x3 x12 x13 x14 H) (B1 P x3 H)
def L2 (P:PT):Y k1:=fun x1 x3 x12 x13 x14 H=>
  ∃ (I:Y k1) (μ:NTy k1 (AHeap→Nat)),I x1 x3 x12 x13 x14 H∧∀ y1 y3 y12 y13 y14 G,I y1 y3 y12 y13 y14 G→B8 P (fun z1 z3 z12 z13 z14 G'=>I z1 z3 z12 z13 z14 G'∧μ z1 z3 z12 z13 z14 G'<μ y1 y3 y12 y13 y14 G) y1 y3 y12 y13 y14 G
theorem l2 P:LQ k1 (L2 P) (B8 P):=fun ⟨_,_,_,_,_,_⟩ _ ⟨I,μ,h0,hI⟩=>⟨apT _ I,apT _ μ,h0,fun ⟨_,_,_,_,_,_⟩ _ h=>hI _ _ _ _ _ _  h⟩
abbrev k5:Sk:=[(1,.x),(3,.x)]
def B9 (P:PT):Y k5:=fun x1 x3 H=>
  li H x1 0 (fun v1=>ld1 H x1 1 (fun v2=>A 125 [(agg ⟨[(I v1),v2]⟩)] H (fun v3 H4=>lenK v3 (fun n6=>L2 P x1 x3 v3 (n6:Int) 0 H4))))
abbrev k6:Sk:=[(1,.x)]
def B10 (P:PT):Y k6:=fun x1 H=>
  ld1 H x1 1 (fun v1=>lenK v1 (fun n2=>mkR H 8 2 [(I 0)] (n2:Int) (n2:Int) (fun v4 H3=>newK H3 [(slice none 0 0)] 42 (fun b5 H6=>pif (Value.oneCell' v4) (stK H6 b5 0 [v4] (fun H7=>B9 P x1 b5 H7)) False))))
abbrev k7:Sk:=[(0,.g [.i,.v])]
def B11 (P:PT):Y k7:=fun x0a x0b H=>
  newK H [(I x0a),x0b] 31 (fun b1 H2=>B10 P b1 H2)
def code:Code:=(.seq (R 0 2) (.seq (R 1 6) (.seq (.seq (R 2 28) (.block 0 (.loop (.seq (R 3 232) (.seq (.cond (.tmp 15) .skip (.exit 0)) (.seq (.block 1 (.seq (R 4 3736) (.seq (R 5 7474) (.seq (R 6 14950) (.cond (.tmp 27) (.seq (R 7 59804) .ret) .skip))))) (R 8 935))))))) (.seq (R 9 30) .ret))))
theorem body:Tryz.f76.body=some code:=by kernel_rfl
theorem main P:Z 30 k7 (B11 P) code (ret P):=
  (r_seq (b (E k6 (B10 P))) (r_seq (b (E k5 (B9 P))) (r_seq (r_seq (b (E k1 (L2 P))) (r_block (rL (l2 P) (fun N2=>(r_seq (b (cnd 15 (E k1 (B7 P N2)) (E k0 (B1 P)))) (r_seq (r_cond rfl r_skip (r_exit (fun _ _ h=>h))) (r_seq (r_block (r_seq (b (E k4 (B6 P N2))) (r_seq (b (E k3 (B5 P N2))) (r_seq (b (cnd 27 (E k2 (B4 P N2)) (E k1 (B3 P N2)))) (r_cond rfl (r_seq (b (ret P)) r_ret) r_skip))))) (b (E k1 N2))))))))) (r_seq (b (ret P)) r_ret))))
theorem ac (P:PT) (x0a:Int) (x0b:Value) (H:AHeap) (h:B11 P x0a x0b H):A 76 [(agg ⟨[(I x0a),x0b]⟩)] H P:=
  r_fn T0_ok (c:=code) (n:=30) Tryz.func76 body (by kernel_rfl) (main P) (En_mk (x0a,x0b,()) (by kernel_rfl) ⟨by kernel_rfl,trivial⟩ h)

end F76
namespace F77
abbrev E:=En 10
def O (k:Nat):=ob Tryz.f77 (pth k)
abbrev R (i k:Nat):Code:=.region i ⟨O k⟩ false
def ret (P:PT):EP:=retE T0 10 Tryz.f77 P
abbrev k0:Sk:=[(0,.v),(2,.x)]
def B1 (P:PT):Y k0:=fun x0 x2 H=>
  A 142 [x0] H (fun v1 H2=>agg2 v1 (fun v3 v4=>asI .i64 v3 (fun v5=>stK H2 x2 0 [(I v5),v4] (fun H7=>li H7 x2 0 (fun v8=>ld1 H7 x2 1 (fun v9=>P (agg ⟨[(I v8),v9]⟩) H7))))))
def B2 (P:PT):Y k0:=fun x0 x2 H=>
  A 94 [x0] H (fun v1 H2=>agg2 v1 (fun v3 v4=>asI .i64 v3 (fun v5=>stK H2 x2 0 [(I v5),v4] (fun H7=>li H7 x2 0 (fun v8=>ld1 H7 x2 1 (fun v9=>P (agg ⟨[(I v8),v9]⟩) H7))))))
def B3 (P:PT):Y k0:=fun x0 x2 H=>
  A 88 [x0,(I 16)] H (fun v1 H2=>asI .i64 v1 (fun v3=>pif ((v3:Int)==0) (B2 P x0 x2 H2) (B1 P x0 x2 H2)))
abbrev k1:Sk:=[(0,.v)]
def B4 (P:PT):Y k1:=fun x0 H=>
  newK H [(I 0),(slice none 0 0)] 31 (fun b1 H2=>B3 P x0 b1 H2)
def code:Code:=(.seq (R 0 2) (.seq (.seq (R 1 12) (.cond (.tmp 5) (.seq (R 2 52) .ret) .skip)) (.seq (R 3 14) .ret)))
theorem body:Tryz.f77.body=some code:=by kernel_rfl
theorem main P:Z 10 k1 (B4 P) code (ret P):=
  (r_seq (b (E k0 (B3 P))) (r_seq (r_seq (b (cnd 5 (E k0 (B2 P)) (E k0 (B1 P)))) (r_cond rfl (r_seq (b (ret P)) r_ret) r_skip)) (r_seq (b (ret P)) r_ret)))
theorem ac (P:PT) (x0:Value) (H:AHeap) (h:B4 P x0 H):A 77 [x0] H P:=
  r_fn T0_ok (c:=code) (n:=10) Tryz.func77 body (by kernel_rfl) (main P) (En_mk (x0,()) (by kernel_rfl) ⟨by kernel_rfl,trivial⟩ h)

end F77
namespace F78
abbrev E:=En 38
def O (k:Nat):=ob Tryz.f78 (pth k)
abbrev R (i k:Nat):Code:=.region i ⟨O k⟩ false
def ret (P:PT):EP:=retE T0 38 Tryz.f78 P
abbrev k0:Sk:=[(3,.v)]
def B1 (P:PT):Y k0:=fun x3 H=>
  P x3 H
abbrev k1:Sk:=[(0,.v),(3,.v),(4,J)]
def o3:=O 467
def B3 (P:PT) (N2:Y k1):Y k1:=fun x0 x3 x4 H=>
  N2 x0 x3 (i64.wrap (x4+1)) H
def o4:=O 932
def B4 (P:PT) (N2:Y k1):Y k1:=fun x0 x3 x4 H=>
  nilK x3 (fun v1=>asP v1 (fun b2 o3=>ldI .u64 H b2 (o3+2) (fun v4=>idxK x0 x4 1 (fun b5 o6=>ldI .u8 H b5 o6 (fun v7=>nilK x3 (fun v8=>asP v8 (fun b9 o10=>stK H b9 (o10+2) [(int .u64 (u64.wrap ((u64.wrap ((u64.wrap (v4*1099511628211))+(u64.wrap v7)))+151)))] (fun H11=>B3 P N2 x0 x3 x4 H11))))))))
theorem q4 (P:PT) (N2:Y k1):QD Tryz.prog T0 38 o4 [(0,false),(1,false),(2,false),(3,false),(4,false),(5,false),(6,false),(7,false),(8,false),(9,false),(10,false),(11,false),(12,false),(13,false),(14,false),(15,false)] (En 38 k1 (B3 P N2)) k1 (B4 P N2):=fun _ _ _ _ _  => by kernel_rfl
def B5 (P:PT) (N2:Y k1):Y k1:=fun x0 x3 x4 H=>
  lenK x0 (fun n1=>pif (decide ((x4:Int)<(n1:Int))) (pif (decide ((x4:Int)<4096)) (B4 P N2 x0 x3 x4 H) (B1 P x3 H)) (B1 P x3 H))
def L2 (P:PT):Y k1:=fun x0 x3 x4 H=>
  ∃ (I:Y k1) (μ:NTy k1 (AHeap→Nat)),I x0 x3 x4 H∧∀ y0 y3 y4 G,I y0 y3 y4 G→B5 P (fun z0 z3 z4 G'=>I z0 z3 z4 G'∧μ z0 z3 z4 G'<μ y0 y3 y4 G) y0 y3 y4 G
theorem l2 P:LQ k1 (L2 P) (B5 P):=fun ⟨_,_,_,_⟩ _ ⟨I,μ,h0,hI⟩=>⟨apT _ I,apT _ μ,h0,fun ⟨_,_,_,_⟩ _ h=>hI _ _ _ _  h⟩
abbrev k2:Sk:=[(0,.v),(3,.v)]
def o6:=O 28
def B6 (P:PT):Y k2:=fun x0 x3 H=>
  L2 P x0 x3 0 H
abbrev k3:Sk:=[(0,.v)]
def B7 (P:PT):Y k3:=fun x0 H=>
  lenK x0 (fun n1=>pif (Value.oneCell' x0) (newK H [x0,(I 0),(int .u64 (u64.wrap (13291+(u64.wrap (n1:Int)))))] 140 (fun b2 H3=>B6 P x0 (pointer (some ⟨b2,0,none⟩)) H3)) False)
def B8 (P:PT):Y k3:=fun x0 H=>
  B7 P x0 H
def code:Code:=(.seq (R 0 2) (.seq (R 1 6) (.seq (.seq (R 2 28) (.block 0 (.loop (.seq (.seq (R 3 464) (.cond (.tmp 19) .skip (.exit 0))) (.seq (.block 1 (.region 5 ⟨o4⟩ true)) (R 4 467)))))) (.seq (R 6 30) .ret))))
theorem body:Tryz.f78.body=some code:=by kernel_rfl
theorem main P:Z 38 k3 (B8 P) code (ret P):=
  (r_seq (b (E k3 (B7 P))) (r_seq (b (E k2 (B6 P))) (r_seq (r_seq (b (E k1 (L2 P))) (r_block (rL (l2 P) (fun N2=>(r_seq (r_seq (b (cnd 19 (E k1 (B4 P N2)) (E k0 (B1 P)))) (r_cond rfl r_skip (r_exit (fun _ _ h=>h)))) (r_seq (r_block (rD T0_ok mixed [(0,false),(1,false),(2,false),(3,false),(4,false),(5,false),(6,false),(7,false),(8,false),(9,false),(10,false),(11,false),(12,false),(13,false),(14,false),(15,false)] (by kernel_rfl) (q4 P N2))) (b (E k1 N2)))))))) (r_seq (b (ret P)) r_ret))))
theorem ac (P:PT) (x0:Value) (H:AHeap) (h:B8 P x0 H):A 78 [x0] H P:=
  r_fn T0_ok (c:=code) (n:=38) Tryz.func78 body (by kernel_rfl) (main P) (En_mk (x0,()) (by kernel_rfl) ⟨by kernel_rfl,trivial⟩ h)

end F78
namespace F79
abbrev E:=En 17
def O (k:Nat):=ob Tryz.f79 (pth k)
abbrev R (i k:Nat):Code:=.region i ⟨O k⟩ false
def ret (P:PT):EP:=retE T0 17 Tryz.f79 P
abbrev k0:Sk:=[(1,.x),(3,J)]
def B2 (P:PT) (N1:Y k0):Y k0:=fun x1 x3 H=>
  N1 x1 (i64.wrap (x3+1)) H
abbrev k1:Sk:=[(4,.v)]
def B3 (P:PT) (N1:Y k0):Y k1:=fun x4 H=>
  P x4 H
abbrev k2:Sk:=[(1,.x),(3,J),(4,.v),(5,.b)]
def B4 (P:PT) (N1:Y k0):Y k2:=fun x1 x3 x4 x5 H=>
  pif x5 (B3 P N1 x4 H) (B2 P N1 x1 x3 H)
def B5 (P:PT) (N1:Y k0):Y k0:=fun x1 x3 H=>
  li H x1 0 (fun v1=>ld1 H x1 1 (fun v2=>newK H [] 2 (fun b3 H4=>A 143 [(agg ⟨[(I v1),v2]⟩),(I x3),(I 0),(slice (some ⟨b3,0,none⟩) 0 (0+1))] H4 (fun v5 H6=>tup2 v5 (fun v7 v8=>asB v8 (fun v10=>B4 P N1 x1 x3 v7 v10 H6))))))
def L1 (P:PT):Y k0:=fun x1 x3 H=>
  ∃ (I:Y k0) (μ:NTy k0 (AHeap→Nat)),I x1 x3 H∧∀ y1 y3 G,I y1 y3 G→B5 P (fun z1 z3 G'=>I z1 z3 G'∧μ z1 z3 G'<μ y1 y3 G) y1 y3 G
theorem l1 P:LQ k0 (L1 P) (B5 P):=fun ⟨_,_,_⟩ _ ⟨I,μ,h0,hI⟩=>⟨apT _ I,apT _ μ,h0,fun ⟨_,_,_⟩ _ h=>hI _ _ _  h⟩
abbrev k3:Sk:=[(1,.x)]
def B6 (P:PT):Y k3:=fun x1 H=>
  L1 P x1 0 H
abbrev k4:Sk:=[(0,.g [.i,.v])]
def B7 (P:PT):Y k4:=fun x0a x0b H=>
  newK H [(I x0a),x0b] 31 (fun b1 H2=>B6 P b1 H2)
def code:Code:=(.seq (R 0 2) (.seq (R 1 6) (.block 0 (.loop (.seq (.block 1 (.seq (R 3 224) (.seq (R 4 450) (.cond (.tmp 15) (.seq (R 5 1804) .ret) .skip)))) (R 2 57))))))
theorem body:Tryz.f79.body=some code:=by kernel_rfl
theorem main P:Z 17 k4 (B7 P) code (ret P):=
  (r_seq (b (E k3 (B6 P))) (r_seq (b (E k0 (L1 P))) (r_block (rL (l1 P) (fun N1=>(r_seq (r_block (r_seq (b (E k2 (B4 P N1))) (r_seq (b (cnd 15 (E k1 (B3 P N1)) (E k0 (B2 P N1)))) (r_cond rfl (r_seq (b (ret P)) r_ret) r_skip)))) (b (E k0 N1))))))))
theorem ac (P:PT) (x0a:Int) (x0b:Value) (H:AHeap) (h:B7 P x0a x0b H):A 79 [(agg ⟨[(I x0a),x0b]⟩)] H P:=
  r_fn T0_ok (c:=code) (n:=17) Tryz.func79 body (by kernel_rfl) (main P) (En_mk (x0a,x0b,()) (by kernel_rfl) ⟨by kernel_rfl,trivial⟩ h)

end F79
namespace F80
abbrev E:=En 19
def O (k:Nat):=ob Tryz.f80 (pth k)
abbrev R (i k:Nat):Code:=.region i ⟨O k⟩ false
def ret (P:PT):EP:=retE T0 19 Tryz.f80 P
abbrev k0:Sk:=[(3,.v)]
def B1 (P:PT):Y k0:=fun x3 H=>
  P x3 H
abbrev k1:Sk:=[(0,.i .u64),(3,.v),(4,J)]
def B3 (P:PT) (N2:Y k1):Y k1:=fun x0 x3 x4 H=>
  N2 x0 x3 (i64.wrap (x4+1)) H
def B4 (P:PT) (N2:Y k1):Y k1:=fun x0 x3 x4 H=>
  newK H [(I x4)] 2 (fun b1 H2=>apK T0 2 H2 x3 (slice (some ⟨b1,0,none⟩) 1 (1+1)) (fun v3 H4=>B3 P N2 x0 v3 x4 H4))
def B5 (P:PT) (N2:Y k1):Y k1:=fun x0 x3 x4 H=>
  A 144 [(int .u64 x0),(I x4)] H (fun v1 H2=>asB v1 (fun v3=>pif v3 (B4 P N2 x0 x3 x4 H2) (B3 P N2 x0 x3 x4 H2)))
def B6 (P:PT) (N2:Y k1):Y k1:=fun x0 x3 x4 H=>
  ((0:Int)≤x4)∧(pif ((Int.fdiv x0 (2^(min (Int.toNat x4) 64)):Int) != 0) (B5 P N2 x0 x3 x4 H) (B1 P x3 H))
def L2 (P:PT):Y k1:=fun x0 x3 x4 H=>
  ∃ (I:Y k1) (μ:NTy k1 (AHeap→Nat)),I x0 x3 x4 H∧∀ y0 y3 y4 G,I y0 y3 y4 G→B6 P (fun z0 z3 z4 G'=>I z0 z3 z4 G'∧μ z0 z3 z4 G'<μ y0 y3 y4 G) y0 y3 y4 G
theorem l2 P:LQ k1 (L2 P) (B6 P):=fun ⟨_,_,_,_⟩ _ ⟨I,μ,h0,hI⟩=>⟨apT _ I,apT _ μ,h0,fun ⟨_,_,_,_⟩ _ h=>hI _ _ _ _  h⟩
abbrev k2:Sk:=[(0,.i .u64),(3,.v)]
def B7 (P:PT):Y k2:=fun x0 x3 H=>
  L2 P x0 x3 0 H
abbrev k3:Sk:=[(0,.i .u64)]
def B8 (P:PT):Y k3:=fun x0 H=>
  B7 P x0 (slice none 0 0) H
def B9 (P:PT):Y k3:=fun x0 H=>
  B8 P x0 H
def code:Code:=(.seq (R 0 2) (.seq (R 1 6) (.seq (.seq (R 2 28) (.block 0 (.loop (.seq (.seq (R 3 464) (.cond (.tmp 8) .skip (.exit 0))) (.seq (.block 1 (.seq (R 5 1864) (.cond (.tmp 13) (R 6 3730) .skip))) (R 4 467)))))) (.seq (R 7 30) .ret))))
theorem body:Tryz.f80.body=some code:=by kernel_rfl
theorem main P:Z 19 k3 (B9 P) code (ret P):=
  (r_seq (b (E k3 (B8 P))) (r_seq (b (E k2 (B7 P))) (r_seq (r_seq (b (E k1 (L2 P))) (r_block (rL (l2 P) (fun N2=>(r_seq (r_seq (b (cnd 8 (E k1 (B5 P N2)) (E k0 (B1 P)))) (r_cond rfl r_skip (r_exit (fun _ _ h=>h)))) (r_seq (r_block (r_seq (b (cnd 13 (E k1 (B4 P N2)) (E k1 (B3 P N2)))) (r_cond rfl (b (E k1 (B3 P N2))) r_skip))) (b (E k1 N2)))))))) (r_seq (b (ret P)) r_ret))))
theorem ac (P:PT) (x0:Int) (H:AHeap) (h:B9 P x0 H):A 80 [(int .u64 x0)] H P:=
  r_fn T0_ok (c:=code) (n:=19) Tryz.func80 body (by kernel_rfl) (main P) (En_mk (x0,()) (by kernel_rfl) ⟨by kernel_rfl,trivial⟩ h)

end F80
namespace F81
abbrev E:=En 26
def O (k:Nat):=ob Tryz.f81 (pth k)
abbrev R (i k:Nat):Code:=.region i ⟨O k⟩ false
def ret (P:PT):EP:=retE T0 26 Tryz.f81 P
abbrev k0:Sk:=[(4,.v),(5,J)]
def o1:=O 62
def B1 (P:PT):Y k0:=fun x4 x5 H=>
  idxK x4 x5 1 (fun b1 o2=>li H b1 o2 (fun v3=>idxK x4 (i64.wrap (x5+1)) 1 (fun b4 o5=>li H b4 o5 (fun v6=>P (tuple ⟨[(I v3),(I v6)]⟩) H))))
theorem q1 (P:PT):QD Tryz.prog T0 26 o1 [(0,false),(1,false),(2,false),(3,false),(4,false),(5,false),(6,false),(7,false),(8,false),(9,false),(10,false)] (ret P) k0 (B1 P):=fun _ _ _ _  => by kernel_rfl
abbrev k1:Sk:=[(0,.v),(4,.v)]
def o2:=O 30
def B2 (P:PT):Y k1:=fun x0 x4 H=>
  A 88 [x0,(I 8)] H (fun v1 H2=>asI .i64 v1 (fun v3=>B1 P x4 (i64.wrap (2*v3)) H2))
abbrev k2:Sk:=[(0,.v)]
def B3 (P:PT):Y k2:=fun x0 H=>
  newK H [(I 3),(I 1),(I 4),(I 1),(I 7),(I 2),(I 10),(I 3),(I 11),(I 3),(I 13),(I 4),(I 5),(I 2),(I 8),(I 2)] 2 (fun b1 H2=>B2 P x0 (slice (some ⟨b1,0,none⟩) 16 (16+1)) H2)
def B4 (P:PT):Y k2:=fun x0 H=>
  A 88 [x0,(I 17)] H (fun v1 H2=>asI .i64 v1 (fun v3=>A 88 [x0,(I 6)] H2 (fun v4 H5=>asI .i64 v4 (fun v6=>P (tuple ⟨[(I v3),(I v6)]⟩) H5))))
def o5:=O 12
def B5 (P:PT):Y k2:=fun x0 H=>
  A 88 [x0,(I 12)] H (fun v1 H2=>asI .i64 v1 (fun v3=>pif ((v3:Int)==0) (B4 P x0 H2) (B3 P x0 H2)))
def B6 (P:PT):Y k2:=fun x0 H=>
  B5 P x0 H
def code:Code:=(.seq (R 0 2) (.seq (.seq (R 1 12) (.cond (.tmp 8) (.seq (R 2 52) .ret) .skip)) (.seq (R 3 14) (.seq (R 4 30) (.seq (.region 5 ⟨o1⟩ true) .ret)))))
theorem body:Tryz.f81.body=some code:=by kernel_rfl
theorem main P:Z 26 k2 (B6 P) code (ret P):=
  (r_seq (b (E k2 (B5 P))) (r_seq (r_seq (b (cnd 8 (E k2 (B4 P)) (E k2 (B3 P)))) (r_cond rfl (r_seq (b (ret P)) r_ret) r_skip)) (r_seq (b (E k1 (B2 P))) (r_seq (b (E k0 (B1 P))) (r_seq (rD T0_ok mixed [(0,false),(1,false),(2,false),(3,false),(4,false),(5,false),(6,false),(7,false),(8,false),(9,false),(10,false)] (by kernel_rfl) (q1 P)) r_ret)))))
theorem ac (P:PT) (x0:Value) (H:AHeap) (h:B6 P x0 H):A 81 [x0] H P:=
  r_fn T0_ok (c:=code) (n:=26) Tryz.func81 body (by kernel_rfl) (main P) (En_mk (x0,()) (by kernel_rfl) ⟨by kernel_rfl,trivial⟩ h)

end F81
namespace F82
abbrev E:=En 13
def O (k:Nat):=ob Tryz.f82 (pth k)
abbrev R (i k:Nat):Code:=.region i ⟨O k⟩ false
def ret (P:PT):EP:=retE T0 13 Tryz.f82 P
abbrev k0:Sk:=[(0,J),(1,J)]
def B1 (P:PT):Y k0:=fun x0 x1 H=>
  A 114 [(I x0),(I 2),(I 14)] H (fun v1 H2=>asB v1 (fun v3=>pif v3 (A 114 [(I x1),(I 1),(I (i64.wrap (Int.tdiv x0 2)))] H2 (fun v4 H5=>asB v4 (fun v6=>P (bool v6) H5))) (P (bool false) H2)))
def B2 (P:PT):Y k0:=fun x0 x1 H=>
  B1 P x0 x1 H
def code:Code:=(.seq (R 0 2) (.seq (R 1 6) .ret))
theorem body:Tryz.f82.body=some code:=by kernel_rfl
theorem main P:Z 13 k0 (B2 P) code (ret P):=
  (r_seq (b (E k0 (B1 P))) (r_seq (b (ret P)) r_ret))
theorem ac (P:PT) (x0 x1:Int) (H:AHeap) (h:B2 P x0 x1 H):A 82 [(I x0),(I x1)] H P:=
  r_fn T0_ok (c:=code) (n:=13) Tryz.func82 body (by kernel_rfl) (main P) (En_mk (x0,x1,()) (by kernel_rfl) ⟨by kernel_rfl,by kernel_rfl,trivial⟩ h)

end F82
namespace F83
abbrev E:=En 19
def O (k:Nat):=ob Tryz.f83 (pth k)
abbrev R (i k:Nat):Code:=.region i ⟨O k⟩ false
def ret (P:PT):EP:=retE T0 19 Tryz.f83 P
abbrev k0:Sk:=[(10,.x),(11,.x)]
def o1:=O 62
def B1 (P:PT):Y k0:=fun x10 x11 H=>
  ld1 H x10 0 (fun v1=>ld1 H x11 0 (fun v2=>callV Tryz.prog T0 v2 [(I 0),(I (-1))] H (fun v3 H4=>asB v3 (fun v5=>(ld1 H4 x10 0 (fun v6=>(v6=v1)∧(H4=H4)))∧(P (tuple ⟨[v1,(bool v5)]⟩) H4)))))
theorem q1 (P:PT):QT Tryz.prog T0 19 o1 (.op 0 [] (.op 1 [] (.op 2 [0] (.op 3 [] (.op 4 [] .done))))) (ret P) k0 (B1 P):=fun _ _ _ _  => by kernel_rfl
abbrev k1:Sk:=[(4,.x),(5,.x),(6,.x),(7,.x),(10,.x),(11,.x)]
def B2 (P:PT):Y k1:=fun x4 x5 x6 x7 x10 x11 H=>
  stK H x11 0 [(func (.func 145) ⟨[]⟩ ⟨[(pointer (some ⟨x10,0,none⟩)),(pointer (some ⟨x4,0,none⟩)),(pointer (some ⟨x7,0,none⟩)),(pointer (some ⟨x5,0,none⟩)),(pointer (some ⟨x6,0,none⟩)),(pointer (some ⟨x11,0,none⟩))]⟩)] (fun H1=>B1 P x10 x11 H1)
abbrev k2:Sk:=[(4,.x),(5,.x),(6,.x),(7,.x),(10,.x)]
def B3 (P:PT):Y k2:=fun x4 x5 x6 x7 x10 H=>
  newK H [Value.nilFunc] 141 (fun b1 H2=>B2 P x4 x5 x6 x7 x10 b1 H2)
abbrev k3:Sk:=[(4,.x),(5,.x),(6,.x),(7,.x)]
def B4 (P:PT):Y k3:=fun x4 x5 x6 x7 H=>
  ld1 H x5 0 (fun v1=>lenK v1 (fun n2=>mkR H 8 2 [(I 0)] (n2:Int) (n2:Int) (fun v4 H3=>newK H3 [(slice none 0 0)] 42 (fun b5 H6=>pif (Value.oneCell' v4) (stK H6 b5 0 [v4] (fun H7=>B3 P x4 x5 x6 x7 b5 H7)) False))))
abbrev k4:Sk:=[(0,J),(1,.v),(2,.v),(3,.b)]
def B5 (P:PT):Y k4:=fun x0 x1 x2 x3 H=>
  newK H [(I x0)] 2 (fun b1 H2=>pif (Value.oneCell' x1) (newK H2 [x1] 53 (fun b3 H4=>pif (Value.oneCell' x2) (newK H4 [x2] 99 (fun b5 H6=>newK H6 [(bool x3)] 4 (fun b7 H8=>B4 P b1 b3 b5 b7 H8))) False)) False)
def code:Code:=(.seq (R 0 2) (.seq (R 1 6) (.seq (R 2 14) (.seq (R 3 30) (.seq (.region 4 ⟨o1⟩ true) .ret)))))
theorem body:Tryz.f83.body=some code:=by kernel_rfl
theorem main P:Z 19 k4 (B5 P) code (ret P):=
  (r_seq (b (E k3 (B4 P))) (r_seq (b (E k2 (B3 P))) (r_seq (b (E k1 (B2 P))) (r_seq (b (E k0 (B1 P))) (r_seq (rT T0_ok mixed (.op 0 [] (.op 1 [] (.op 2 [0] (.op 3 [] (.op 4 [] .done))))) (by kernel_rfl) (q1 P)) r_ret)))))
theorem ac (P:PT) (x0:Int) (x1 x2:Value) (x3:Bool) (H:AHeap) (h:B5 P x0 x1 x2 x3 H):A 83 [(I x0),x1,x2,(bool x3)] H P:=
  r_fn T0_ok (c:=code) (n:=19) Tryz.func83 body (by kernel_rfl) (main P) (En_mk (x0,x1,x2,x3,()) (by kernel_rfl) ⟨by kernel_rfl,by kernel_rfl,by kernel_rfl,by kernel_rfl,trivial⟩ h)

end F83
namespace F84
abbrev E:=En 9
def O (k:Nat):=ob Tryz.f84 (pth k)
abbrev R (i k:Nat):Code:=.region i ⟨O k⟩ false
def ret (P:PT):EP:=retE T0 9 Tryz.f84 P
abbrev k0:Sk:=[(1,.x)]
def o1:=O 6
def B1 (P:PT):Y k0:=fun x1 H=>
  ld1 H x1 1 (fun v1=>li H x1 0 (fun v2=>ld1 H x1 1 (fun v3=>A 115 [v1] H (fun v4 H5=>asI .i64 v4 (fun v6=>(AHeap.le H H5)∧(A 148 [(I v6),(func (.func 149) ⟨[(agg ⟨[(I v2),v3]⟩)]⟩ ⟨[]⟩)] H5 (fun v7 H8=>P v7 H8)))))))
theorem q1 (P:PT):QD Tryz.prog T0 9 o1 [(0,false),(1,false),(3,false),(4,false),(2,true),(5,false),(6,false)] (ret P) k0 (B1 P):=fun _ _ _  => by kernel_rfl
abbrev k1:Sk:=[(0,.g [.i,.v])]
def B2 (P:PT):Y k1:=fun x0a x0b H=>
  newK H [(I x0a),x0b] 31 (fun b1 H2=>B1 P b1 H2)
def code:Code:=(.seq (R 0 2) (.seq (.region 1 ⟨o1⟩ true) .ret))
theorem body:Tryz.f84.body=some code:=by kernel_rfl
theorem main P:Z 9 k1 (B2 P) code (ret P):=
  (r_seq (b (E k0 (B1 P))) (r_seq (rD T0_ok mixed [(0,false),(1,false),(3,false),(4,false),(2,true),(5,false),(6,false)] (by kernel_rfl) (q1 P)) r_ret))
theorem ac (P:PT) (x0a:Int) (x0b:Value) (H:AHeap) (h:B2 P x0a x0b H):A 84 [(agg ⟨[(I x0a),x0b]⟩)] H P:=
  r_fn T0_ok (c:=code) (n:=9) Tryz.func84 body (by kernel_rfl) (main P) (En_mk (x0a,x0b,()) (by kernel_rfl) ⟨by kernel_rfl,trivial⟩ h)

end F84
namespace F85
abbrev E:=En 6
def O (k:Nat):=ob Tryz.f85 (pth k)
abbrev R (i k:Nat):Code:=.region i ⟨O k⟩ false
def ret (P:PT):EP:=retE T0 6 Tryz.f85 P
abbrev k0:Sk:=[(2,.x),(3,.x)]
def B1 (P:PT):Y k0:=fun x2 x3 H=>
  P (func (.func 150) ⟨[]⟩ ⟨[(pointer (some ⟨x3,0,none⟩)),(pointer (some ⟨x2,0,none⟩))]⟩) H
abbrev k1:Sk:=[(0,J),(1,J)]
def B2 (P:PT):Y k1:=fun x0 x1 H=>
  newK H [(I x0)] 2 (fun b1 H2=>newK H2 [(I x1)] 2 (fun b3 H4=>B1 P b1 b3 H4))
def code:Code:=(.seq (R 0 2) (.seq (R 1 6) .ret))
theorem body:Tryz.f85.body=some code:=by kernel_rfl
theorem main P:Z 6 k1 (B2 P) code (ret P):=
  (r_seq (b (E k0 (B1 P))) (r_seq (b (ret P)) r_ret))
theorem ac (P:PT) (x0 x1:Int) (H:AHeap) (h:B2 P x0 x1 H):A 85 [(I x0),(I x1)] H P:=
  r_fn T0_ok (c:=code) (n:=6) Tryz.func85 body (by kernel_rfl) (main P) (En_mk (x0,x1,()) (by kernel_rfl) ⟨by kernel_rfl,by kernel_rfl,trivial⟩ h)

end F85
namespace F86
abbrev E:=En 13
def O (k:Nat):=ob Tryz.f86 (pth k)
abbrev R (i k:Nat):Code:=.region i ⟨O k⟩ false
def ret (P:PT):EP:=retE T0 13 Tryz.f86 P
abbrev k0:Sk:=[(0,J),(1,J)]
def B1 (P:PT):Y k0:=fun x0 x1 H=>
  A 91 [(I x0),(I 2),(I 14)] H (fun v1 H2=>asB v1 (fun v3=>pif v3 (A 91 [(I x1),(I 1),(I (i64.wrap (Int.tdiv x0 2)))] H2 (fun v4 H5=>asB v4 (fun v6=>P (bool v6) H5))) (P (bool false) H2)))
def B2 (P:PT):Y k0:=fun x0 x1 H=>
  B1 P x0 x1 H
def code:Code:=(.seq (R 0 2) (.seq (R 1 6) .ret))
theorem body:Tryz.f86.body=some code:=by kernel_rfl
theorem main P:Z 13 k0 (B2 P) code (ret P):=
  (r_seq (b (E k0 (B1 P))) (r_seq (b (ret P)) r_ret))
theorem ac (P:PT) (x0 x1:Int) (H:AHeap) (h:B2 P x0 x1 H):A 86 [(I x0),(I x1)] H P:=
  r_fn T0_ok (c:=code) (n:=13) Tryz.func86 body (by kernel_rfl) (main P) (En_mk (x0,x1,()) (by kernel_rfl) ⟨by kernel_rfl,by kernel_rfl,trivial⟩ h)

end F86
namespace F87
abbrev E:=En 71
def O (k:Nat):=ob Tryz.f87 (pth k)
abbrev R (i k:Nat):Code:=.region i ⟨O k⟩ false
def ret (P:PT):EP:=retE T0 71 Tryz.f87 P
abbrev k0:Sk:=[]
def B1 (P:PT):Y k0:=fun H=>
  P (tuple ⟨[(slice none 0 0),(bool false)]⟩) H
abbrev k1:Sk:=[(1,J),(2,J),(3,.v),(4,.x),(10,J),(11,J)]
def B3 (P:PT) (N2:Y k1):Y k1:=fun x1 x2 x3 x4 x10 x11 H=>
  N2 x1 x2 x3 x4 x10 (i64.wrap (x11+1)) H
def B4 (P:PT) (N2:Y k1):Y k0:=fun H=>
  P (tuple ⟨[(slice none 0 0),(bool false)]⟩) H
def B5 (P:PT) (N2:Y k1):Y k1:=fun x1 x2 x3 x4 x10 x11 H=>
  pif ((x10:Int)==0) (B4 P N2 H) (B3 P N2 x1 x2 x3 x4 x10 x11 H)
abbrev k2:Sk:=[(14,.v)]
def B6 (P:PT) (N2:Y k1):Y k2:=fun x14 H=>
  P (tuple ⟨[x14,(bool true)]⟩) H
abbrev k3:Sk:=[(1,J),(2,J),(3,.v),(4,.x),(10,J),(11,J),(14,.v),(15,.b)]
def o7:=O 125242
def B7 (P:PT) (N2:Y k1):Y k3:=fun x1 x2 x3 x4 x10 x11 x14 x15 H=>
  pif x15 (B6 P N2 x14 H) (B5 P N2 x1 x2 x3 x4 x10 x11 H)
def o8:=O 62620
def B8 (P:PT) (N2:Y k1):Y k1:=fun x1 x2 x3 x4 x10 x11 H=>
  li H x4 0 (fun v1=>ld1 H x4 1 (fun v2=>(A 89 [x3] H (fun v3 H4=>(li H4 x4 0 (fun v6=>ld1 H4 x4 1 (fun v7=>((agg ⟨[(I v6),v7]⟩)=(agg ⟨[(I v1),v2]⟩))∧(H4=H4))))∧(newK H4 [(I x11)] 2 (fun b8 H9=>apK T0 2 H9 v3 (slice (some ⟨b8,0,none⟩) 1 (1+1)) (fun v10 H11=>(li H11 x4 0 (fun v12=>ld1 H11 x4 1 (fun v13=>((agg ⟨[(I v12),v13]⟩)=(agg ⟨[(I v1),v2]⟩))∧(H11=H11))))∧(A 87 [(agg ⟨[(I v1),v2]⟩),(I x1),(I x2),v10] H11 (fun v14 H15=>tup2 v14 (fun v16 v17=>asB v17 (fun v19=>B7 P N2 x1 x2 x3 x4 x10 x11 v16 v19 H15)))))))))∧(newK H [(I x11)] 2 (fun b20 H21=>A 89 [x3] H21 (fun v22 H23=>(li H23 x4 0 (fun v25=>ld1 H23 x4 1 (fun v26=>((agg ⟨[(I v25),v26]⟩)=(agg ⟨[(I v1),v2]⟩))∧(H23=H23))))∧(apK T0 2 H23 v22 (slice (some ⟨b20,0,none⟩) 1 (1+1)) (fun v27 H28=>(li H28 x4 0 (fun v29=>ld1 H28 x4 1 (fun v30=>((agg ⟨[(I v29),v30]⟩)=(agg ⟨[(I v1),v2]⟩))∧(H28=H28))))∧(A 87 [(agg ⟨[(I v1),v2]⟩),(I x1),(I x2),v27] H28 (fun v31 H32=>tup2 v31 (fun v33 v34=>asB v34 (fun v36=>B7 P N2 x1 x2 x3 x4 x10 x11 v33 v36 H32)))))))))))
theorem q8 (P:PT) (N2:Y k1):QT Tryz.prog T0 71 o8 (.op 0 [] (.op 1 [] (.op 2 [] (.op 3 [] (.op 5 [] (.alt (.op 4 [0] (.op 6 [] (.op 7 [0] (.op 8 [] (.op 9 [] (.op 10 [] (.op 11 [] (.op 12 [] (.op 13 [] .done))))))))) (.op 6 [] (.op 4 [0] (.op 7 [0] (.op 8 [] (.op 9 [] (.op 10 [] (.op 11 [] (.op 12 [] (.op 13 [] .done))))))))))))))) (En 71 k3 (B7 P N2)) k1 (B8 P N2):=fun _ _ _ _ _ _ _ _  => by kernel_rfl
abbrev k4:Sk:=[(1,J),(2,J),(3,.v),(4,.x),(10,J),(11,J),(12,.b)]
def B9 (P:PT) (N2:Y k1):Y k4:=fun x1 x2 x3 x4 x10 x11 x12 H=>
  pif (!x12) (B3 P N2 x1 x2 x3 x4 x10 x11 H) (B8 P N2 x1 x2 x3 x4 x10 x11 H)
abbrev k5:Sk:=[(1,J),(2,J),(3,.v),(4,.x),(10,J),(11,J),(12,.b),(13,J)]
def B11 (P:PT) (N2:Y k1) (N10:Y k5):Y k5:=fun x1 x2 x3 x4 x10 x11 x12 x13 H=>
  N10 x1 x2 x3 x4 x10 x11 x12 (i64.wrap (x13+1)) H
abbrev k6:Sk:=[(1,J),(2,J),(3,.v),(4,.x),(10,J),(11,J),(13,J)]
def B12 (P:PT) (N2:Y k1) (N10:Y k5):Y k6:=fun x1 x2 x3 x4 x10 x11 x13 H=>
  li H x4 0 (fun v1=>ld1 H x4 1 (fun v2=>A 92 [(agg ⟨[(I v1),v2]⟩),(I x10),(I x13)] H (fun v3 H4=>asB v3 (fun v5=>pif (!v5) (B11 P N2 N10 x1 x2 x3 x4 x10 x11 true x13 H4) (idxK x3 x13 1 (fun b6 o7=>li H4 b6 o7 (fun v8=>A 93 [(I x1),(I x2),(I x11),(I v8)] H4 (fun v9 H10=>asB v9 (fun v11=>B11 P N2 N10 x1 x2 x3 x4 x10 x11 v11 x13 H10)))))))))
def B13 (P:PT) (N2:Y k1) (N10:Y k5):Y k5:=fun x1 x2 x3 x4 x10 x11 x12 x13 H=>
  pif (decide ((x13:Int)<x10)) (pif x12 (B12 P N2 N10 x1 x2 x3 x4 x10 x11 x13 H) (B9 P N2 x1 x2 x3 x4 x10 x11 x12 H)) (B9 P N2 x1 x2 x3 x4 x10 x11 x12 H)
def L10 (P:PT) (N2:Y k1):Y k5:=fun x1 x2 x3 x4 x10 x11 x12 x13 H=>
  ∃ (I:Y k5) (μ:NTy k5 (AHeap→Nat)),I x1 x2 x3 x4 x10 x11 x12 x13 H∧∀ y1 y2 y3 y4 y10 y11 y12 y13 G,I y1 y2 y3 y4 y10 y11 y12 y13 G→B13 P N2 (fun z1 z2 z3 z4 z10 z11 z12 z13 G'=>I z1 z2 z3 z4 z10 z11 z12 z13 G'∧μ z1 z2 z3 z4 z10 z11 z12 z13 G'<μ y1 y2 y3 y4 y10 y11 y12 y13 G) y1 y2 y3 y4 y10 y11 y12 y13 G
theorem l10 P N2:LQ k5 (L10 P N2) (B13 P N2):=fun ⟨_,_,_,_,_,_,_,_,_⟩ _ ⟨I,μ,h0,hI⟩=>⟨apT _ I,apT _ μ,h0,fun ⟨_,_,_,_,_,_,_,_,_⟩ _ h=>hI _ _ _ _ _ _ _ _ _  h⟩
def B14 (P:PT) (N2:Y k1):Y k4:=fun x1 x2 x3 x4 x10 x11 x12 H=>
  L10 P N2 x1 x2 x3 x4 x10 x11 x12 0 H
def B15 (P:PT) (N2:Y k1):Y k1:=fun x1 x2 x3 x4 x10 x11 H=>
  B14 P N2 x1 x2 x3 x4 x10 x11 true H
def B16 (P:PT) (N2:Y k1):Y k1:=fun x1 x2 x3 x4 x10 x11 H=>
  pif (decide ((x11:Int)<x1)) (B15 P N2 x1 x2 x3 x4 x10 x11 H) (B1 P H)
def L2 (P:PT):Y k1:=fun x1 x2 x3 x4 x10 x11 H=>
  ∃ (I:Y k1) (μ:NTy k1 (AHeap→Nat)),I x1 x2 x3 x4 x10 x11 H∧∀ y1 y2 y3 y4 y10 y11 G,I y1 y2 y3 y4 y10 y11 G→B16 P (fun z1 z2 z3 z4 z10 z11 G'=>I z1 z2 z3 z4 z10 z11 G'∧μ z1 z2 z3 z4 z10 z11 G'<μ y1 y2 y3 y4 y10 y11 G) y1 y2 y3 y4 y10 y11 G
theorem l2 P:LQ k1 (L2 P) (B16 P):=fun ⟨_,_,_,_,_,_,_⟩ _ ⟨I,μ,h0,hI⟩=>⟨apT _ I,apT _ μ,h0,fun ⟨_,_,_,_,_,_,_⟩ _ h=>hI _ _ _ _ _ _ _  h⟩
abbrev k7:Sk:=[(1,J),(2,J),(3,.v),(4,.x),(10,J)]
def B17 (P:PT):Y k7:=fun x1 x2 x3 x4 x10 H=>
  L2 P x1 x2 x3 x4 x10 0 H
abbrev k8:Sk:=[(3,.v)]
def B18 (P:PT):Y k8:=fun x3 H=>
  P (tuple ⟨[x3,(bool true)]⟩) H
def B19 (P:PT):Y k7:=fun x1 x2 x3 x4 x10 H=>
  lenK x3 (fun n1=>ld1 H x4 1 (fun v2=>lenK v2 (fun n3=>pif (((n1:Int):Int)==(n3:Int)) (B18 P x3 H) (B17 P x1 x2 x3 x4 x10 H))))
abbrev k9:Sk:=[(1,J),(2,J),(3,.v),(4,.x)]
def B20 (P:PT):Y k9:=fun x1 x2 x3 x4 H=>
  lenK x3 (fun n1=>B19 P x1 x2 x3 x4 (n1:Int) H)
abbrev k10:Sk:=[(0,.g [.i,.v]),(1,J),(2,J),(3,.v)]
def B21 (P:PT):Y k10:=fun x0a x0b x1 x2 x3 H=>
  newK H [(I x0a),x0b] 31 (fun b1 H2=>B20 P x1 x2 x3 b1 H2)
def code:Code:=(.seq (R 0 2) (.seq (R 1 6) (.seq (.seq (R 2 28) (.cond (.tmp 23) (.seq (R 3 116) .ret) .skip)) (.seq (.seq (R 4 60) (.block 0 (.loop (.seq (.seq (R 5 976) (.cond (.tmp 27) .skip (.exit 0))) (.seq (.block 1 (.seq (R 7 3912) (.seq (.seq (R 8 15652) (.block 2 (.loop (.seq (.seq (R 9 250448) (.cond (.tmp 35) .skip (.exit 2))) (.seq (.block 3 (R 11 500900)) (R 10 250451)))))) (.seq (.seq (R 12 31308) (.cond (.tmp 54) (.exit 1) .skip)) (.seq (.seq (.region 13 ⟨o8⟩ true) (.seq (R 14 125242) (.cond (.tmp 67) (.seq (R 15 500972) .ret) .skip))) (.seq (R 16 62622) (.cond (.tmp 70) (.seq (R 17 250492) .ret) .skip))))))) (R 6 979)))))) (.seq (R 18 62) .ret)))))
theorem body:Tryz.f87.body=some code:=by kernel_rfl
theorem main P:Z 71 k10 (B21 P) code (ret P):=
  (r_seq (b (E k9 (B20 P))) (r_seq (b (E k7 (B19 P))) (r_seq (r_seq (b (cnd 23 (E k8 (B18 P)) (E k7 (B17 P)))) (r_cond rfl (r_seq (b (ret P)) r_ret) r_skip)) (r_seq (r_seq (b (E k1 (L2 P))) (r_block (rL (l2 P) (fun N2=>(r_seq (r_seq (b (cnd 27 (E k1 (B15 P N2)) (E k0 (B1 P)))) (r_cond rfl r_skip (r_exit (fun _ _ h=>h)))) (r_seq (r_block (r_seq (b (E k4 (B14 P N2))) (r_seq (r_seq (b (E k5 (L10 P N2))) (r_block (rL (l10 P N2) (fun N10=>(r_seq (r_seq (b (cnd 35 (E k6 (B12 P N2 N10)) (E k4 (B9 P N2)))) (r_cond rfl r_skip (r_exit (fun _ _ h=>h)))) (r_seq (r_block (b (E k5 (B11 P N2 N10)))) (b (E k5 N10)))))))) (r_seq (r_seq (b (cnd 54 (E k1 (B3 P N2)) (E k1 (B8 P N2)))) (r_cond rfl (r_exit (fun _ _ h=>h)) r_skip)) (r_seq (r_seq (rT T0_ok mixed (.op 0 [] (.op 1 [] (.op 2 [] (.op 3 [] (.op 5 [] (.alt (.op 4 [0] (.op 6 [] (.op 7 [0] (.op 8 [] (.op 9 [] (.op 10 [] (.op 11 [] (.op 12 [] (.op 13 [] .done))))))))) (.op 6 [] (.op 4 [0] (.op 7 [0] (.op 8 [] (.op 9 [] (.op 10 [] (.op 11 [] (.op 12 [] (.op 13 [] .done))))))))))))))) (by kernel_rfl) (q8 P N2)) (r_seq (b (cnd 67 (E k2 (B6 P N2)) (E k1 (B5 P N2)))) (r_cond rfl (r_seq (b (ret P)) r_ret) r_skip))) (r_seq (b (cnd 70 (E k0 (B4 P N2)) (E k1 (B3 P N2)))) (r_cond rfl (r_seq (b (ret P)) r_ret) r_skip))))))) (b (E k1 N2)))))))) (r_seq (b (ret P)) r_ret)))))
theorem ac (P:PT) (x0a:Int) (x0b:Value) (x1 x2:Int) (x3:Value) (H:AHeap) (h:B21 P x0a x0b x1 x2 x3 H):A 87 [(agg ⟨[(I x0a),x0b]⟩),(I x1),(I x2),x3] H P:=
  r_fn T0_ok (c:=code) (n:=71) Tryz.func87 body (by kernel_rfl) (main P) (En_mk (x0a,x0b,x1,x2,x3,()) (by kernel_rfl) ⟨by kernel_rfl,by kernel_rfl,by kernel_rfl,by kernel_rfl,trivial⟩ h)

end F87
namespace F88
abbrev E:=En 58
def O (k:Nat):=ob Tryz.f88 (pth k)
abbrev R (i k:Nat):Code:=.region i ⟨O k⟩ false
def ret (P:PT):EP:=retE T0 58 Tryz.f88 P
abbrev k0:Sk:=[(1,J),(5,J)]
def B1 (P:PT):Y k0:=fun x1 x5 H=>
  nzK x1 (P (I (Int.tmod x5 x1)) H)
abbrev k1:Sk:=[(0,.v),(1,J),(5,J)]
def B2 (P:PT):Y k1:=fun x0 x1 x5 H=>
  nilK x0 (fun v1=>asP v1 (fun b2 o3=>li H b2 (o3+1) (fun v4=>nilK x0 (fun v5=>asP v5 (fun b6 o7=>stK H b6 (o7+1) [(I (i64.wrap (v4+1)))] (fun H8=>B1 P x1 x5 H8))))))
def o3:=O 500
def B3 (P:PT):Y k1:=fun x0 x1 x5 H=>
  nilK x0 (fun v1=>asP v1 (fun b2 o3=>ld1 H b2 o3 (fun v4=>nilK x0 (fun v5=>asP v5 (fun b6 o7=>li H b6 (o7+1) (fun v8=>idxK v4 v8 1 (fun b9 o10=>ldI .u8 H b9 o10 (fun v11=>B2 P x0 x1 (i64.wrap (x5+(i64.wrap v11))) H))))))))
theorem q3 (P:PT):QD Tryz.prog T0 58 o3 [(0,false),(1,false),(2,false),(3,false),(4,false),(5,false),(6,false),(7,false),(8,false),(9,false),(10,false),(11,false),(12,false),(13,false)] (En 58 k1 (B2 P)) k1 (B3 P):=fun _ _ _ _ _  => by kernel_rfl
def o4:=O 124
def B4 (P:PT):Y k1:=fun x0 x1 x5 H=>
  nilK x0 (fun v1=>asP v1 (fun b2 o3=>li H b2 (o3+1) (fun v4=>nilK x0 (fun v5=>asP v5 (fun b6 o7=>ld1 H b6 o7 (fun v8=>lenK v8 (fun n9=>pif (decide ((v4:Int)<(n9:Int))) (B3 P x0 x1 x5 H) (B1 P x1 x5 H))))))))
theorem q4 (P:PT):QD Tryz.prog T0 58 o4 [(0,false),(1,false),(2,false),(3,false),(4,false),(5,false),(6,false),(7,false),(8,false),(9,false)] (cnd 33 (En 58 k1 (B3 P)) (En 58 k0 (B1 P))) k1 (B4 P):=fun _ _ _ _ _  => by kernel_rfl
abbrev k2:Sk:=[(0,.v),(1,J)]
def B5 (P:PT):Y k2:=fun x0 x1 H=>
  nilK x0 (fun v1=>asP v1 (fun b2 o3=>ldI .u64 H b2 (o3+2) (fun v4=>((0:Int)≤33)∧(B4 P x0 x1 (i64.wrap (u64.wrap (BitVec.ofInt 64 (Int.fdiv v4 (2^(min (Int.toNat 33) 64)))&&&BitVec.ofInt 64 16777215).toNat)) H))))
def B6 (P:PT):Y k2:=fun x0 x1 H=>
  nilK x0 (fun v1=>asP v1 (fun b2 o3=>ldI .u64 H b2 (o3+2) (fun v4=>nilK x0 (fun v5=>asP v5 (fun b6 o7=>stK H b6 (o7+2) [(int .u64 (u64.wrap ((u64.wrap (v4*6364136223846793005))+1442695040888963407)))] (fun H8=>B5 P x0 x1 H8))))))
abbrev k3:Sk:=[]
def o7:=O 52
def B7 (P:PT):Y k3:=fun H=>
  P (I 0) H
def B8 (P:PT):Y k2:=fun x0 x1 H=>
  pif (decide ((x1:Int)<1)) (B7 P H) (B6 P x0 x1 H)
def B9 (P:PT):Y k2:=fun x0 x1 H=>
  B8 P x0 x1 H
def code:Code:=(.seq (R 0 2) (.seq (.seq (R 1 12) (.cond (.tmp 7) (.seq (R 2 52) .ret) .skip)) (.seq (R 3 14) (.seq (R 4 30) (.seq (.seq (.region 5 ⟨o4⟩ true) (.cond (.tmp 33) (.seq (.region 6 ⟨o3⟩ true) (R 7 501)) .skip)) (.seq (R 8 126) .ret))))))
theorem body:Tryz.f88.body=some code:=by kernel_rfl
theorem main P:Z 58 k2 (B9 P) code (ret P):=
  (r_seq (b (E k2 (B8 P))) (r_seq (r_seq (b (cnd 7 (E k3 (B7 P)) (E k2 (B6 P)))) (r_cond rfl (r_seq (b (ret P)) r_ret) r_skip)) (r_seq (b (E k2 (B5 P))) (r_seq (b (E k1 (B4 P))) (r_seq (r_seq (rD T0_ok mixed [(0,false),(1,false),(2,false),(3,false),(4,false),(5,false),(6,false),(7,false),(8,false),(9,false)] (by kernel_rfl) (q4 P)) (r_cond rfl (r_seq (rD T0_ok mixed [(0,false),(1,false),(2,false),(3,false),(4,false),(5,false),(6,false),(7,false),(8,false),(9,false),(10,false),(11,false),(12,false),(13,false)] (by kernel_rfl) (q3 P)) (b (E k0 (B1 P)))) r_skip)) (r_seq (b (ret P)) r_ret))))))
theorem ac (P:PT) (x0:Value) (x1:Int) (H:AHeap) (h:B9 P x0 x1 H):A 88 [x0,(I x1)] H P:=
  r_fn T0_ok (c:=code) (n:=58) Tryz.func88 body (by kernel_rfl) (main P) (En_mk (x0,x1,()) (by kernel_rfl) ⟨by kernel_rfl,by kernel_rfl,trivial⟩ h)

end F88
namespace F89
abbrev E:=En 6
def O (k:Nat):=ob Tryz.f89 (pth k)
abbrev R (i k:Nat):Code:=.region i ⟨O k⟩ false
def ret (P:PT):EP:=retE T0 6 Tryz.f89 P
abbrev k0:Sk:=[(0,.v)]
def B1 (P:PT):Y k0:=fun x0 H=>
  newK H [] 2 (fun b1 H2=>apK T0 2 H2 (slice (some ⟨b1,0,none⟩) 0 (0+1)) x0 (fun v3 H4=>P v3 H4))
def B2 (P:PT):Y k0:=fun x0 H=>
  B1 P x0 H
def code:Code:=(.seq (R 0 2) (.seq (R 1 6) .ret))
theorem body:Tryz.f89.body=some code:=by kernel_rfl
theorem main P:Z 6 k0 (B2 P) code (ret P):=
  (r_seq (b (E k0 (B1 P))) (r_seq (b (ret P)) r_ret))
theorem ac (P:PT) (x0:Value) (H:AHeap) (h:B2 P x0 H):A 89 [x0] H P:=
  r_fn T0_ok (c:=code) (n:=6) Tryz.func89 body (by kernel_rfl) (main P) (En_mk (x0,()) (by kernel_rfl) ⟨by kernel_rfl,trivial⟩ h)

end F89
namespace F90
abbrev E:=En 32
def O (k:Nat):=ob Tryz.f90 (pth k)
abbrev R (i k:Nat):Code:=.region i ⟨O k⟩ false
def ret (P:PT):EP:=retE T0 32 Tryz.f90 P
abbrev k0:Sk:=[]
def B1 (P:PT):Y k0:=fun H=>
  P (bool true) H
abbrev k1:Sk:=[(1,J),(2,.v),(4,.x),(7,.x),(11,.v),(12,J),(13,J)]
def B3 (P:PT) (N2:Y k1):Y k1:=fun x1 x2 x4 x7 x11 x12 x13 H=>
  N2 x1 x2 x4 x7 x11 x12 (i64.wrap (x13+1)) H
def B4 (P:PT) (N2:Y k1):Y k0:=fun H=>
  P (bool false) H
abbrev k2:Sk:=[(1,J),(2,.v),(4,.x),(7,.x),(9,J),(10,.x),(11,.v),(12,J),(13,J)]
def B5 (P:PT) (N2:Y k1):Y k2:=fun x1 x2 x4 x7 x9 x10 x11 x12 x13 H=>
  li H x10 0 (fun v1=>A 114 [(I v1),(I 0),(I (i64.wrap (x1-1)))] H (fun v2 H3=>asB v2 (fun v4=>pif (!v4) (B4 P N2 H3) (idxK x2 x9 1 (fun b5 o6=>ld1 H3 b5 o6 (fun v7=>A 146 [v7,(func (.func 151) ⟨[]⟩ ⟨[(pointer (some ⟨x7,0,none⟩)),(pointer (some ⟨x10,0,none⟩)),(pointer (some ⟨x4,0,none⟩))]⟩)] H3 (fun v8 H9=>asB v8 (fun v10=>pif v10 (B4 P N2 H9) (B3 P N2 x1 x2 x4 x7 x11 x12 x13 H9)))))))))
def o6:=O 1688
def B6 (P:PT) (N2:Y k1):Y k1:=fun x1 x2 x4 x7 x11 x12 x13 H=>
  idxK x11 x13 1 (fun b1 o2=>li H b1 o2 (fun v3=>newK H [(I 0)] 2 (fun b4 H5=>stK H5 b4 0 [(I v3)] (fun H6=>B5 P N2 x1 x2 x4 x7 x13 b4 x11 x12 x13 H6))))
def B7 (P:PT) (N2:Y k1):Y k1:=fun x1 x2 x4 x7 x11 x12 x13 H=>
  pif (decide ((x13:Int)<x12)) (B6 P N2 x1 x2 x4 x7 x11 x12 x13 H) (B1 P H)
def L2 (P:PT):Y k1:=fun x1 x2 x4 x7 x11 x12 x13 H=>
  ∃ (I:Y k1) (μ:NTy k1 (AHeap→Nat)),I x1 x2 x4 x7 x11 x12 x13 H∧∀ y1 y2 y4 y7 y11 y12 y13 G,I y1 y2 y4 y7 y11 y12 y13 G→B7 P (fun z1 z2 z4 z7 z11 z12 z13 G'=>I z1 z2 z4 z7 z11 z12 z13 G'∧μ z1 z2 z4 z7 z11 z12 z13 G'<μ y1 y2 y4 y7 y11 y12 y13 G) y1 y2 y4 y7 y11 y12 y13 G
theorem l2 P:LQ k1 (L2 P) (B7 P):=fun ⟨_,_,_,_,_,_,_,_⟩ _ ⟨I,μ,h0,hI⟩=>⟨apT _ I,apT _ μ,h0,fun ⟨_,_,_,_,_,_,_,_⟩ _ h=>hI _ _ _ _ _ _ _ _  h⟩
abbrev k3:Sk:=[(1,J),(2,.v),(4,.x),(7,.x)]
def B8 (P:PT):Y k3:=fun x1 x2 x4 x7 H=>
  ld1 H x4 0 (fun v1=>lenK v1 (fun n2=>L2 P x1 x2 x4 x7 v1 (n2:Int) 0 H))
abbrev k4:Sk:=[(0,.v),(1,J),(2,.v),(3,.v)]
def B9 (P:PT):Y k4:=fun x0 x1 x2 x3 H=>
  pif (Value.oneCell' x0) (newK H [x0] 42 (fun b1 H2=>pif (Value.oneCell' x3) (newK H2 [x3] 99 (fun b3 H4=>B8 P x1 x2 b1 b3 H4)) False)) False
def code:Code:=(.seq (R 0 2) (.seq (.seq (R 1 12) (.block 0 (.loop (.seq (R 2 104) (.seq (.cond (.tmp 14) .skip (.exit 0)) (.seq (.block 1 (.seq (R 3 1688) (.seq (R 4 3378) (.cond (.tmp 30) (.seq (R 5 13516) .ret) .skip)))) (R 6 423))))))) (.seq (R 7 14) .ret)))
theorem body:Tryz.f90.body=some code:=by kernel_rfl
theorem main P:Z 32 k4 (B9 P) code (ret P):=
  (r_seq (b (E k3 (B8 P))) (r_seq (r_seq (b (E k1 (L2 P))) (r_block (rL (l2 P) (fun N2=>(r_seq (b (cnd 14 (E k1 (B6 P N2)) (E k0 (B1 P)))) (r_seq (r_cond rfl r_skip (r_exit (fun _ _ h=>h))) (r_seq (r_block (r_seq (b (E k2 (B5 P N2))) (r_seq (b (cnd 30 (E k0 (B4 P N2)) (E k1 (B3 P N2)))) (r_cond rfl (r_seq (b (ret P)) r_ret) r_skip)))) (b (E k1 N2))))))))) (r_seq (b (ret P)) r_ret)))
theorem ac (P:PT) (x0:Value) (x1:Int) (x2 x3:Value) (H:AHeap) (h:B9 P x0 x1 x2 x3 H):A 90 [x0,(I x1),x2,x3] H P:=
  r_fn T0_ok (c:=code) (n:=32) Tryz.func90 body (by kernel_rfl) (main P) (En_mk (x0,x1,x2,x3,()) (by kernel_rfl) ⟨by kernel_rfl,by kernel_rfl,by kernel_rfl,by kernel_rfl,trivial⟩ h)

end F90
namespace F91
abbrev E:=En 15
def O (k:Nat):=ob Tryz.f91 (pth k)
abbrev R (i k:Nat):Code:=.region i ⟨O k⟩ false
def ret (P:PT):EP:=retE T0 15 Tryz.f91 P
abbrev k0:Sk:=[(0,J),(1,J),(2,J)]
def B1 (P:PT):Y k0:=fun x0 x1 x2 H=>
  pif (decide ((x0:Int)≥x1)) (P (bool (decide ((x0:Int)≤x2))) H) (P (bool false) H)
def B2 (P:PT):Y k0:=fun x0 x1 x2 H=>
  B1 P x0 x1 x2 H
def code:Code:=(.seq (R 0 2) (.seq (R 1 6) .ret))
theorem body:Tryz.f91.body=some code:=by kernel_rfl
theorem main P:Z 15 k0 (B2 P) code (ret P):=
  (r_seq (b (E k0 (B1 P))) (r_seq (b (ret P)) r_ret))
theorem ac (P:PT) (x0 x1 x2:Int) (H:AHeap) (h:B2 P x0 x1 x2 H):A 91 [(I x0),(I x1),(I x2)] H P:=
  r_fn T0_ok (c:=code) (n:=15) Tryz.func91 body (by kernel_rfl) (main P) (En_mk (x0,x1,x2,()) (by kernel_rfl) ⟨by kernel_rfl,by kernel_rfl,by kernel_rfl,trivial⟩ h)

end F91
namespace F92
abbrev E:=En 45
def O (k:Nat):=ob Tryz.f92 (pth k)
abbrev R (i k:Nat):Code:=.region i ⟨O k⟩ false
def ret (P:PT):EP:=retE T0 45 Tryz.f92 P
abbrev k0:Sk:=[(7,.x),(8,.x)]
def B1 (P:PT):Y k0:=fun x7 x8 H=>
  li H x7 0 (fun v1=>li H x8 0 (fun v2=>pif ((v1:Int)==v2) (P (bool true) H) (li H x7 0 (fun v3=>li H x8 1 (fun v4=>pif ((v3:Int)==v4) (P (bool true) H) (li H x7 1 (fun v5=>li H x8 0 (fun v6=>pif ((v5:Int)==v6) (P (bool true) H) (li H x7 1 (fun v7=>li H x8 1 (fun v8=>P (bool ((v7:Int)==v8)) H)))))))))))
abbrev k1:Sk:=[(1,J),(2,J),(3,.x)]
def o2:=O 6
def B2 (P:PT):Y k1:=fun x1 x2 x3 H=>
  ld1 H x3 1 (fun v1=>idxK v1 x1 2 (fun b2 o3=>li H b2 o3 (fun v4=>li H b2 (o3+1) (fun v5=>ld1 H x3 1 (fun v6=>idxK v6 x2 2 (fun b7 o8=>li H b7 o8 (fun v9=>li H b7 (o8+1) (fun v10=>(newK H [(I 0),(I 0)] 28 (fun b11 H12=>newK H12 [(I 0),(I 0)] 28 (fun b13 H14=>stK H14 b11 0 [(I v4),(I v5)] (fun H15=>(ld1 H15 x3 1 (fun v16=>(v16=v6)∧(H15=H15)))∧((li H15 b7 o8 (fun v17=>li H15 b7 (o8+1) (fun v18=>((agg ⟨[(I v17),(I v18)]⟩)=(agg ⟨[(I v9),(I v10)]⟩))∧(H15=H15))))∧(stK H15 b13 0 [(I v9),(I v10)] (fun H19=>B1 P b11 b13 H19)))))))∧(newK H [(I 0),(I 0)] 28 (fun b20 H21=>newK H21 [(I 0),(I 0)] 28 (fun b22 H23=>stK H23 b22 0 [(I v4),(I v5)] (fun H24=>(ld1 H24 x3 1 (fun v25=>(v25=v6)∧(H24=H24)))∧((li H24 b7 o8 (fun v26=>li H24 b7 (o8+1) (fun v27=>((agg ⟨[(I v26),(I v27)]⟩)=(agg ⟨[(I v9),(I v10)]⟩))∧(H24=H24))))∧(stK H24 b20 0 [(I v9),(I v10)] (fun H28=>B1 P b22 b20 H28)))))))))))))))
theorem q2 (P:PT):QT Tryz.prog T0 45 o2 (.op 0 [] (.op 1 [] (.op 2 [] (.op 3 [] (.op 4 [] (.op 5 [] (.op 6 [] (.op 7 [] (.op 8 [] (.op 9 [] (.alt (.op 10 [] (.op 11 [] (.op 12 [6,9] (.op 13 [] .done)))) (.op 11 [] (.op 10 [] (.op 12 [6,9] (.op 13 [] .done))))))))))))))) (En 45 k0 (B1 P)) k1 (B2 P):=fun _ _ _ _ _  => by kernel_rfl
abbrev k2:Sk:=[(0,.g [.i,.v]),(1,J),(2,J)]
def o3:=O 2
def B3 (P:PT):Y k2:=fun x0a x0b x1 x2 H=>
  newK H [(I x0a),x0b] 31 (fun b1 H2=>B2 P x1 x2 b1 H2)
def code:Code:=(.seq (R 0 2) (.seq (.region 1 ⟨o2⟩ true) (.seq (R 2 14) .ret)))
theorem body:Tryz.f92.body=some code:=by kernel_rfl
theorem main P:Z 45 k2 (B3 P) code (ret P):=
  (r_seq (b (E k1 (B2 P))) (r_seq (rT T0_ok mixed (.op 0 [] (.op 1 [] (.op 2 [] (.op 3 [] (.op 4 [] (.op 5 [] (.op 6 [] (.op 7 [] (.op 8 [] (.op 9 [] (.alt (.op 10 [] (.op 11 [] (.op 12 [6,9] (.op 13 [] .done)))) (.op 11 [] (.op 10 [] (.op 12 [6,9] (.op 13 [] .done))))))))))))))) (by kernel_rfl) (q2 P)) (r_seq (b (ret P)) r_ret)))
theorem ac (P:PT) (x0a:Int) (x0b:Value) (x1 x2:Int) (H:AHeap) (h:B3 P x0a x0b x1 x2 H):A 92 [(agg ⟨[(I x0a),x0b]⟩),(I x1),(I x2)] H P:=
  r_fn T0_ok (c:=code) (n:=45) Tryz.func92 body (by kernel_rfl) (main P) (En_mk (x0a,x0b,x1,x2,()) (by kernel_rfl) ⟨by kernel_rfl,by kernel_rfl,by kernel_rfl,trivial⟩ h)

end F92
namespace F93
abbrev E:=En 27
def O (k:Nat):=ob Tryz.f93 (pth k)
abbrev R (i k:Nat):Code:=.region i ⟨O k⟩ false
def ret (P:PT):EP:=retE T0 27 Tryz.f93 P
abbrev k0:Sk:=[(0,J),(1,J),(9,J)]
def B1 (P:PT):Y k0:=fun x0 x1 x9 H=>
  pif (decide ((x9:Int)≥x1)) (P (bool (decide ((x9:Int)≤(i64.wrap (x0-x1))))) H) (P (bool false) H)
abbrev k1:Sk:=[(0,J),(1,J),(2,J),(3,J)]
def B2 (P:PT):Y k1:=fun x0 x1 x2 x3 H=>
  B1 P x0 x1 (if (i64.wrap (x3-x2))>(i64.wrap (x2-x3)) then i64.wrap (x3-x2) else i64.wrap (x2-x3)) H
def B3 (P:PT):Y k1:=fun x0 x1 x2 x3 H=>
  B2 P x0 x1 x2 x3 H
def code:Code:=(.seq (R 0 2) (.seq (R 1 6) (.seq (R 2 14) .ret)))
theorem body:Tryz.f93.body=some code:=by kernel_rfl
theorem main P:Z 27 k1 (B3 P) code (ret P):=
  (r_seq (b (E k1 (B2 P))) (r_seq (b (E k0 (B1 P))) (r_seq (b (ret P)) r_ret)))
theorem ac (P:PT) (x0 x1 x2 x3:Int) (H:AHeap) (h:B3 P x0 x1 x2 x3 H):A 93 [(I x0),(I x1),(I x2),(I x3)] H P:=
  r_fn T0_ok (c:=code) (n:=27) Tryz.func93 body (by kernel_rfl) (main P) (En_mk (x0,x1,x2,x3,()) (by kernel_rfl) ⟨by kernel_rfl,by kernel_rfl,by kernel_rfl,by kernel_rfl,trivial⟩ h)

end F93
namespace F94
abbrev E:=En 7
def O (k:Nat):=ob Tryz.f94 (pth k)
abbrev R (i k:Nat):Code:=.region i ⟨O k⟩ false
def ret (P:PT):EP:=retE T0 7 Tryz.f94 P
abbrev k0:Sk:=[(0,.v),(2,.x)]
def B1 (P:PT):Y k0:=fun x0 x2 H=>
  A 153 [x0] H (fun v1 H2=>agg2 v1 (fun v3 v4=>asI .i64 v3 (fun v5=>A 152 [x0,(agg ⟨[(I v5),v4]⟩)] H2 (fun v7 H8=>agg2 v7 (fun v9 v10=>asI .i64 v9 (fun v11=>stK H8 x2 0 [(I v11),v10] (fun H13=>li H13 x2 0 (fun v14=>ld1 H13 x2 1 (fun v15=>P (agg ⟨[(I v14),v15]⟩) H13)))))))))
abbrev k1:Sk:=[(0,.v)]
def B2 (P:PT):Y k1:=fun x0 H=>
  newK H [(I 0),(slice none 0 0)] 31 (fun b1 H2=>B1 P x0 b1 H2)
def code:Code:=(.seq (R 0 2) (.seq (R 1 6) .ret))
theorem body:Tryz.f94.body=some code:=by kernel_rfl
theorem main P:Z 7 k1 (B2 P) code (ret P):=
  (r_seq (b (E k0 (B1 P))) (r_seq (b (ret P)) r_ret))
theorem ac (P:PT) (x0:Value) (H:AHeap) (h:B2 P x0 H):A 94 [x0] H P:=
  r_fn T0_ok (c:=code) (n:=7) Tryz.func94 body (by kernel_rfl) (main P) (En_mk (x0,()) (by kernel_rfl) ⟨by kernel_rfl,trivial⟩ h)

end F94
namespace F95
abbrev E:=En 15
def O (k:Nat):=ob Tryz.f95 (pth k)
abbrev R (i k:Nat):Code:=.region i ⟨O k⟩ false
def ret (P:PT):EP:=retE T0 15 Tryz.f95 P
abbrev k0:Sk:=[(3,.x),(4,.x),(5,.x)]
def B1 (P:PT):Y k0:=fun x3 x4 x5 H=>
  li H x3 0 (fun v1=>ld1 H x3 1 (fun v2=>A 154 [(agg ⟨[(I v1),v2]⟩)] H (fun v3 H4=>A 146 [v3,(func (.func 155) ⟨[]⟩ ⟨[(pointer (some ⟨x3,0,none⟩)),(pointer (some ⟨x4,0,none⟩)),(pointer (some ⟨x5,0,none⟩))]⟩)] H4 (fun v6 H7=>asB v6 (fun v8=>P (bool v8) H7)))))
abbrev k1:Sk:=[]
def B2 (P:PT):Y k1:=fun H=>
  P (bool true) H
def B3 (P:PT):Y k0:=fun x3 x4 x5 H=>
  li H x3 0 (fun v1=>ld1 H x3 1 (fun v2=>li H x4 0 (fun v3=>li H x5 0 (fun v4=>A 149 [(agg ⟨[(I v1),v2]⟩),(I v3),(I v4)] H (fun v5 H6=>asB v5 (fun v7=>pif v7 (B2 P H6) (B1 P x3 x4 x5 H6)))))))
abbrev k2:Sk:=[(0,.g [.i,.v]),(1,J),(2,J)]
def B4 (P:PT):Y k2:=fun x0a x0b x1 x2 H=>
  newK H [(I x0a),x0b] 31 (fun b1 H2=>newK H2 [(I x1)] 2 (fun b3 H4=>newK H4 [(I x2)] 2 (fun b5 H6=>B3 P b1 b3 b5 H6)))
def code:Code:=(.seq (R 0 2) (.seq (.seq (R 1 12) (.cond (.tmp 10) (.seq (R 2 52) .ret) .skip)) (.seq (R 3 14) .ret)))
theorem body:Tryz.f95.body=some code:=by kernel_rfl
theorem main P:Z 15 k2 (B4 P) code (ret P):=
  (r_seq (b (E k0 (B3 P))) (r_seq (r_seq (b (cnd 10 (E k1 (B2 P)) (E k0 (B1 P)))) (r_cond rfl (r_seq (b (ret P)) r_ret) r_skip)) (r_seq (b (ret P)) r_ret)))
theorem ac (P:PT) (x0a:Int) (x0b:Value) (x1 x2:Int) (H:AHeap) (h:B4 P x0a x0b x1 x2 H):A 95 [(agg ⟨[(I x0a),x0b]⟩),(I x1),(I x2)] H P:=
  r_fn T0_ok (c:=code) (n:=15) Tryz.func95 body (by kernel_rfl) (main P) (En_mk (x0a,x0b,x1,x2,()) (by kernel_rfl) ⟨by kernel_rfl,by kernel_rfl,by kernel_rfl,trivial⟩ h)

end F95
namespace F96
abbrev E:=En 29
def O (k:Nat):=ob Tryz.f96 (pth k)
abbrev R (i k:Nat):Code:=.region i ⟨O k⟩ false
def ret (P:PT):EP:=retE T0 29 Tryz.f96 P
abbrev k0:Sk:=[]
def B1 (P:PT):Y k0:=fun H=>
  P (bool false) H
abbrev k1:Sk:=[(1,J),(2,J),(3,.x),(7,J)]
def B3 (P:PT) (N2:Y k1):Y k1:=fun x1 x2 x3 x7 H=>
  N2 x1 x2 x3 (i64.wrap (x7+1)) H
def B4 (P:PT) (N2:Y k1):Y k0:=fun H=>
  P (bool true) H
def B5 (P:PT) (N2:Y k1):Y k1:=fun x1 x2 x3 x7 H=>
  li H x3 0 (fun v1=>ld1 H x3 1 (fun v2=>A 92 [(agg ⟨[(I v1),v2]⟩),(I x1),(I x7)] H (fun v3 H4=>asB v3 (fun v5=>pif v5 (li H4 x3 0 (fun v6=>ld1 H4 x3 1 (fun v7=>A 92 [(agg ⟨[(I v6),v7]⟩),(I x2),(I x7)] H4 (fun v8 H9=>asB v8 (fun v10=>pif v10 (B4 P N2 H9) (B3 P N2 x1 x2 x3 x7 H9)))))) (B3 P N2 x1 x2 x3 x7 H4)))))
def B6 (P:PT) (N2:Y k1):Y k1:=fun x1 x2 x3 x7 H=>
  ld1 H x3 1 (fun v1=>lenK v1 (fun n2=>pif (decide ((x7:Int)<(n2:Int))) (B5 P N2 x1 x2 x3 x7 H) (B1 P H)))
def L2 (P:PT):Y k1:=fun x1 x2 x3 x7 H=>
  ∃ (I:Y k1) (μ:NTy k1 (AHeap→Nat)),I x1 x2 x3 x7 H∧∀ y1 y2 y3 y7 G,I y1 y2 y3 y7 G→B6 P (fun z1 z2 z3 z7 G'=>I z1 z2 z3 z7 G'∧μ z1 z2 z3 z7 G'<μ y1 y2 y3 y7 G) y1 y2 y3 y7 G
theorem l2 P:LQ k1 (L2 P) (B6 P):=fun ⟨_,_,_,_,_⟩ _ ⟨I,μ,h0,hI⟩=>⟨apT _ I,apT _ μ,h0,fun ⟨_,_,_,_,_⟩ _ h=>hI _ _ _ _ _  h⟩
abbrev k2:Sk:=[(1,J),(2,J),(3,.x)]
def B7 (P:PT):Y k2:=fun x1 x2 x3 H=>
  L2 P x1 x2 x3 0 H
def B8 (P:PT):Y k0:=fun H=>
  P (bool true) H
def B9 (P:PT):Y k2:=fun x1 x2 x3 H=>
  li H x3 0 (fun v1=>ld1 H x3 1 (fun v2=>A 92 [(agg ⟨[(I v1),v2]⟩),(I x1),(I x2)] H (fun v3 H4=>asB v3 (fun v5=>pif v5 (B8 P H4) (B7 P x1 x2 x3 H4)))))
abbrev k3:Sk:=[(0,.g [.i,.v]),(1,J),(2,J)]
def B10 (P:PT):Y k3:=fun x0a x0b x1 x2 H=>
  newK H [(I x0a),x0b] 31 (fun b1 H2=>B9 P x1 x2 b1 H2)
def code:Code:=(.seq (R 0 2) (.seq (.seq (R 1 12) (.cond (.tmp 11) (.seq (R 2 52) .ret) .skip)) (.seq (.seq (R 3 28) (.block 0 (.loop (.seq (.seq (R 4 464) (.cond (.tmp 16) .skip (.exit 0))) (.seq (.block 1 (.seq (R 6 1864) (.cond (.tmp 28) (.seq (R 7 7460) .ret) .skip))) (R 5 467)))))) (.seq (R 8 30) .ret))))
theorem body:Tryz.f96.body=some code:=by kernel_rfl
theorem main P:Z 29 k3 (B10 P) code (ret P):=
  (r_seq (b (E k2 (B9 P))) (r_seq (r_seq (b (cnd 11 (E k0 (B8 P)) (E k2 (B7 P)))) (r_cond rfl (r_seq (b (ret P)) r_ret) r_skip)) (r_seq (r_seq (b (E k1 (L2 P))) (r_block (rL (l2 P) (fun N2=>(r_seq (r_seq (b (cnd 16 (E k1 (B5 P N2)) (E k0 (B1 P)))) (r_cond rfl r_skip (r_exit (fun _ _ h=>h)))) (r_seq (r_block (r_seq (b (cnd 28 (E k0 (B4 P N2)) (E k1 (B3 P N2)))) (r_cond rfl (r_seq (b (ret P)) r_ret) r_skip))) (b (E k1 N2)))))))) (r_seq (b (ret P)) r_ret))))
theorem ac (P:PT) (x0a:Int) (x0b:Value) (x1 x2:Int) (H:AHeap) (h:B10 P x0a x0b x1 x2 H):A 96 [(agg ⟨[(I x0a),x0b]⟩),(I x1),(I x2)] H P:=
  r_fn T0_ok (c:=code) (n:=29) Tryz.func96 body (by kernel_rfl) (main P) (En_mk (x0a,x0b,x1,x2,()) (by kernel_rfl) ⟨by kernel_rfl,by kernel_rfl,by kernel_rfl,trivial⟩ h)

end F96
namespace F102
abbrev E:=En 11
def O (k:Nat):=ob Tryz.f102 (pth k)
abbrev R (i k:Nat):Code:=.region i ⟨O k⟩ false
def ret (P:PT):EP:=retE T0 11 Tryz.f102 P
abbrev k0:Sk:=[(1,.i .u64),(2,.x)]
def o1:=O 6
def B1 (P:PT):Y k0:=fun x1 x2 H=>
  li H x2 0 (fun v1=>ld1 H x2 1 (fun v2=>li H x2 0 (fun v3=>ld1 H x2 1 (fun v4=>A 108 [(agg ⟨[(I v3),v4]⟩)] H (fun v5 H6=>asI .u64 v5 (fun v7=>(AHeap.le H H6)∧(A 162 [(agg ⟨[(I v1),v2]⟩),(int .u64 (u64.wrap (BitVec.ofInt 64 v7&&&~~~(BitVec.ofInt 64 x1)).toNat))] H6 (fun v8 H9=>P v8 H9))))))))
theorem q1 (P:PT):QD Tryz.prog T0 11 o1 [(0,false),(1,false),(3,false),(2,true),(4,false),(5,false),(6,false)] (ret P) k0 (B1 P):=fun _ _ _ _  => by kernel_rfl
abbrev k1:Sk:=[(0,.g [.i,.v]),(1,.i .u64)]
def B2 (P:PT):Y k1:=fun x0a x0b x1 H=>
  newK H [(I x0a),x0b] 31 (fun b1 H2=>B1 P x1 b1 H2)
def code:Code:=(.seq (R 0 2) (.seq (.region 1 ⟨o1⟩ true) .ret))
theorem body:Tryz.f102.body=some code:=by kernel_rfl
theorem main P:Z 11 k1 (B2 P) code (ret P):=
  (r_seq (b (E k0 (B1 P))) (r_seq (rD T0_ok mixed [(0,false),(1,false),(3,false),(2,true),(4,false),(5,false),(6,false)] (by kernel_rfl) (q1 P)) r_ret))
theorem ac (P:PT) (x0a:Int) (x0b:Value) (x1:Int) (H:AHeap) (h:B2 P x0a x0b x1 H):A 102 [(agg ⟨[(I x0a),x0b]⟩),(int .u64 x1)] H P:=
  r_fn T0_ok (c:=code) (n:=11) Tryz.func102 body (by kernel_rfl) (main P) (En_mk (x0a,x0b,x1,()) (by kernel_rfl) ⟨by kernel_rfl,by kernel_rfl,trivial⟩ h)

end F102
namespace F103
abbrev E:=En 18
def O (k:Nat):=ob Tryz.f103 (pth k)
abbrev R (i k:Nat):Code:=.region i ⟨O k⟩ false
def ret (P:PT):EP:=retE T0 18 Tryz.f103 P
abbrev k0:Sk:=[(3,.i .u64)]
def B1 (P:PT):Y k0:=fun x3 H=>
  P (int .u64 x3) H
abbrev k1:Sk:=[(3,.i .u64),(6,.v),(7,J),(8,J)]
def B3 (P:PT) (N2:Y k1):Y k1:=fun x3 x6 x7 x8 H=>
  N2 x3 x6 x7 (i64.wrap (x8+1)) H
abbrev k2:Sk:=[(3,.i .u64),(5,J),(6,.v),(7,J),(8,J)]
def B4 (P:PT) (N2:Y k1):Y k2:=fun x3 x5 x6 x7 x8 H=>
  ((0:Int)≤x5)∧(B3 P N2 (u64.wrap (BitVec.ofInt 64 x3|||BitVec.ofInt 64 (u64.wrap (1*2^(min (Int.toNat x5) 64)))).toNat) x6 x7 x8 H)
def B5 (P:PT) (N2:Y k1):Y k1:=fun x3 x6 x7 x8 H=>
  idxK x6 x8 1 (fun b1 o2=>li H b1 o2 (fun v3=>B4 P N2 x3 v3 x6 x7 x8 H))
def B6 (P:PT) (N2:Y k1):Y k1:=fun x3 x6 x7 x8 H=>
  pif (decide ((x8:Int)<x7)) (B5 P N2 x3 x6 x7 x8 H) (B1 P x3 H)
def L2 (P:PT):Y k1:=fun x3 x6 x7 x8 H=>
  ∃ (I:Y k1) (μ:NTy k1 (AHeap→Nat)),I x3 x6 x7 x8 H∧∀ y3 y6 y7 y8 G,I y3 y6 y7 y8 G→B6 P (fun z3 z6 z7 z8 G'=>I z3 z6 z7 z8 G'∧μ z3 z6 z7 z8 G'<μ y3 y6 y7 y8 G) y3 y6 y7 y8 G
theorem l2 P:LQ k1 (L2 P) (B6 P):=fun ⟨_,_,_,_,_⟩ _ ⟨I,μ,h0,hI⟩=>⟨apT _ I,apT _ μ,h0,fun ⟨_,_,_,_,_⟩ _ h=>hI _ _ _ _ _  h⟩
abbrev k3:Sk:=[(0,.v),(3,.i .u64)]
def B7 (P:PT):Y k3:=fun x0 x3 H=>
  lenK x0 (fun n1=>L2 P x3 x0 (n1:Int) 0 H)
abbrev k4:Sk:=[(0,.v)]
def B8 (P:PT):Y k4:=fun x0 H=>
  B7 P x0 0 H
def B9 (P:PT):Y k4:=fun x0 H=>
  B8 P x0 H
def code:Code:=(.seq (R 0 2) (.seq (R 1 6) (.seq (.seq (R 2 28) (.block 0 (.loop (.seq (R 3 232) (.seq (.cond (.tmp 9) .skip (.exit 0)) (.seq (.block 1 (.seq (R 4 3736) (R 5 3737))) (R 6 935))))))) (.seq (R 7 30) .ret))))
theorem body:Tryz.f103.body=some code:=by kernel_rfl
theorem main P:Z 18 k4 (B9 P) code (ret P):=
  (r_seq (b (E k4 (B8 P))) (r_seq (b (E k3 (B7 P))) (r_seq (r_seq (b (E k1 (L2 P))) (r_block (rL (l2 P) (fun N2=>(r_seq (b (cnd 9 (E k1 (B5 P N2)) (E k0 (B1 P)))) (r_seq (r_cond rfl r_skip (r_exit (fun _ _ h=>h))) (r_seq (r_block (r_seq (b (E k2 (B4 P N2))) (b (E k1 (B3 P N2))))) (b (E k1 N2))))))))) (r_seq (b (ret P)) r_ret))))
theorem ac (P:PT) (x0:Value) (H:AHeap) (h:B9 P x0 H):A 103 [x0] H P:=
  r_fn T0_ok (c:=code) (n:=18) Tryz.func103 body (by kernel_rfl) (main P) (En_mk (x0,()) (by kernel_rfl) ⟨by kernel_rfl,trivial⟩ h)

end F103
namespace F108
abbrev E:=En 8
def O (k:Nat):=ob Tryz.f108 (pth k)
abbrev R (i k:Nat):Code:=.region i ⟨O k⟩ false
def ret (P:PT):EP:=retE T0 8 Tryz.f108 P
abbrev k0:Sk:=[(1,.x)]
def B1 (P:PT):Y k0:=fun x1 H=>
  ld1 H x1 1 (fun v1=>lenK v1 (fun n2=>((0:Int)≤(n2:Int))∧(P (int .u64 (u64.wrap ((u64.wrap (1*2^(min (Int.toNat (n2:Int)) 64)))-1))) H)))
abbrev k1:Sk:=[(0,.g [.i,.v])]
def B2 (P:PT):Y k1:=fun x0a x0b H=>
  newK H [(I x0a),x0b] 31 (fun b1 H2=>B1 P b1 H2)
def code:Code:=(.seq (R 0 2) (.seq (R 1 6) .ret))
theorem body:Tryz.f108.body=some code:=by kernel_rfl
theorem main P:Z 8 k1 (B2 P) code (ret P):=
  (r_seq (b (E k0 (B1 P))) (r_seq (b (ret P)) r_ret))
theorem ac (P:PT) (x0a:Int) (x0b:Value) (H:AHeap) (h:B2 P x0a x0b H):A 108 [(agg ⟨[(I x0a),x0b]⟩)] H P:=
  r_fn T0_ok (c:=code) (n:=8) Tryz.func108 body (by kernel_rfl) (main P) (En_mk (x0a,x0b,()) (by kernel_rfl) ⟨by kernel_rfl,trivial⟩ h)

end F108
namespace F109
abbrev E:=En 9
def O (k:Nat):=ob Tryz.f109 (pth k)
abbrev R (i k:Nat):Code:=.region i ⟨O k⟩ false
def ret (P:PT):EP:=retE T0 9 Tryz.f109 P
abbrev k0:Sk:=[(5,.x)]
def B1 (P:PT):Y k0:=fun x5 H=>
  ld1 H x5 0 (fun v1=>callV Tryz.prog T0 v1 [(int .u64 0),(int .u64 0)] H (fun v2 H3=>asB v2 (fun v4=>P (bool v4) H3)))
abbrev k1:Sk:=[(2,.x),(3,.x),(5,.x)]
def B2 (P:PT):Y k1:=fun x2 x3 x5 H=>
  stK H x5 0 [(func (.func 166) ⟨[]⟩ ⟨[(pointer (some ⟨x2,0,none⟩)),(pointer (some ⟨x3,0,none⟩)),(pointer (some ⟨x5,0,none⟩))]⟩)] (fun H1=>B1 P x5 H1)
abbrev k2:Sk:=[(2,.x),(3,.x)]
def B3 (P:PT):Y k2:=fun x2 x3 H=>
  newK H [Value.nilFunc] 151 (fun b1 H2=>B2 P x2 x3 b1 H2)
abbrev k3:Sk:=[(0,.g [.i,.v]),(1,.v)]
def B4 (P:PT):Y k3:=fun x0a x0b x1 H=>
  newK H [(I x0a),x0b] 31 (fun b1 H2=>pif (Value.oneCell' x1) (newK H2 [x1] 119 (fun b3 H4=>B3 P b1 b3 H4)) False)
def code:Code:=(.seq (R 0 2) (.seq (R 1 6) (.seq (R 2 14) (.seq (R 3 30) .ret))))
theorem body:Tryz.f109.body=some code:=by kernel_rfl
theorem main P:Z 9 k3 (B4 P) code (ret P):=
  (r_seq (b (E k2 (B3 P))) (r_seq (b (E k1 (B2 P))) (r_seq (b (E k0 (B1 P))) (r_seq (b (ret P)) r_ret))))
theorem ac (P:PT) (x0a:Int) (x0b x1:Value) (H:AHeap) (h:B4 P x0a x0b x1 H):A 109 [(agg ⟨[(I x0a),x0b]⟩),x1] H P:=
  r_fn T0_ok (c:=code) (n:=9) Tryz.func109 body (by kernel_rfl) (main P) (En_mk (x0a,x0b,x1,()) (by kernel_rfl) ⟨by kernel_rfl,by kernel_rfl,trivial⟩ h)

end F109
namespace F112
abbrev E:=En 25
def O (k:Nat):=ob Tryz.f112 (pth k)
abbrev R (i k:Nat):Code:=.region i ⟨O k⟩ false
def ret (P:PT):EP:=retE T0 25 Tryz.f112 P
abbrev k0:Sk:=[(5,.v)]
def B1 (P:PT):Y k0:=fun x5 H=>
  P x5 H
abbrev k1:Sk:=[(1,J),(5,.v),(9,.v),(10,J),(11,J)]
def B3 (P:PT) (N2:Y k1):Y k1:=fun x1 x5 x9 x10 x11 H=>
  N2 x1 x5 x9 x10 (i64.wrap (x11+1)) H
abbrev k2:Sk:=[(1,J),(5,.v),(6,J),(9,.v),(10,J),(11,J)]
def B4 (P:PT) (N2:Y k1):Y k2:=fun x1 x5 x6 x9 x10 x11 H=>
  newK H [(I x6)] 2 (fun b1 H2=>apK T0 2 H2 x5 (slice (some ⟨b1,0,none⟩) 1 (1+1)) (fun v3 H4=>B3 P N2 x1 v3 x9 x10 x11 H4))
abbrev k3:Sk:=[(1,J),(5,.v),(6,J),(7,.x),(9,.v),(10,J),(11,J)]
def B5 (P:PT) (N2:Y k1):Y k3:=fun x1 x5 x6 x7 x9 x10 x11 H=>
  li H x7 0 (fun v1=>li H x7 1 (fun v2=>A 169 [(agg ⟨[(I v1),(I v2)]⟩),(I x1)] H (fun v3 H4=>asB v3 (fun v5=>pif v5 (B4 P N2 x1 x5 x6 x9 x10 x11 H4) (B3 P N2 x1 x5 x9 x10 x11 H4)))))
def B6 (P:PT) (N2:Y k1):Y k1:=fun x1 x5 x9 x10 x11 H=>
  idxK x9 x11 2 (fun b1 o2=>li H b1 o2 (fun v3=>li H b1 (o2+1) (fun v4=>newK H [(I 0),(I 0)] 28 (fun b5 H6=>stK H6 b5 0 [(I v3),(I v4)] (fun H7=>B5 P N2 x1 x5 x11 b5 x9 x10 x11 H7)))))
def B7 (P:PT) (N2:Y k1):Y k1:=fun x1 x5 x9 x10 x11 H=>
  pif (decide ((x11:Int)<x10)) (B6 P N2 x1 x5 x9 x10 x11 H) (B1 P x5 H)
def L2 (P:PT):Y k1:=fun x1 x5 x9 x10 x11 H=>
  ∃ (I:Y k1) (μ:NTy k1 (AHeap→Nat)),I x1 x5 x9 x10 x11 H∧∀ y1 y5 y9 y10 y11 G,I y1 y5 y9 y10 y11 G→B7 P (fun z1 z5 z9 z10 z11 G'=>I z1 z5 z9 z10 z11 G'∧μ z1 z5 z9 z10 z11 G'<μ y1 y5 y9 y10 y11 G) y1 y5 y9 y10 y11 G
theorem l2 P:LQ k1 (L2 P) (B7 P):=fun ⟨_,_,_,_,_,_⟩ _ ⟨I,μ,h0,hI⟩=>⟨apT _ I,apT _ μ,h0,fun ⟨_,_,_,_,_,_⟩ _ h=>hI _ _ _ _ _ _  h⟩
abbrev k4:Sk:=[(1,J),(2,.x),(5,.v)]
def B8 (P:PT):Y k4:=fun x1 x2 x5 H=>
  ld1 H x2 1 (fun v1=>lenK v1 (fun n2=>L2 P x1 x5 v1 (n2:Int) 0 H))
abbrev k5:Sk:=[(1,J),(2,.x)]
def B9 (P:PT):Y k5:=fun x1 x2 H=>
  B8 P x1 x2 (slice none 0 0) H
abbrev k6:Sk:=[(0,.g [.i,.v]),(1,J)]
def B10 (P:PT):Y k6:=fun x0a x0b x1 H=>
  newK H [(I x0a),x0b] 31 (fun b1 H2=>B9 P x1 b1 H2)
def code:Code:=(.seq (R 0 2) (.seq (R 1 6) (.seq (.seq (R 2 28) (.block 0 (.loop (.seq (R 3 232) (.seq (.cond (.tmp 12) .skip (.exit 0)) (.seq (.block 1 (.seq (R 4 3736) (.seq (R 5 7474) (.cond (.tmp 18) (R 6 14950) .skip)))) (R 7 935))))))) (.seq (R 8 30) .ret))))
theorem body:Tryz.f112.body=some code:=by kernel_rfl
theorem main P:Z 25 k6 (B10 P) code (ret P):=
  (r_seq (b (E k5 (B9 P))) (r_seq (b (E k4 (B8 P))) (r_seq (r_seq (b (E k1 (L2 P))) (r_block (rL (l2 P) (fun N2=>(r_seq (b (cnd 12 (E k1 (B6 P N2)) (E k0 (B1 P)))) (r_seq (r_cond rfl r_skip (r_exit (fun _ _ h=>h))) (r_seq (r_block (r_seq (b (E k3 (B5 P N2))) (r_seq (b (cnd 18 (E k2 (B4 P N2)) (E k1 (B3 P N2)))) (r_cond rfl (b (E k1 (B3 P N2))) r_skip)))) (b (E k1 N2))))))))) (r_seq (b (ret P)) r_ret))))
theorem ac (P:PT) (x0a:Int) (x0b:Value) (x1:Int) (H:AHeap) (h:B10 P x0a x0b x1 H):A 112 [(agg ⟨[(I x0a),x0b]⟩),(I x1)] H P:=
  r_fn T0_ok (c:=code) (n:=25) Tryz.func112 body (by kernel_rfl) (main P) (En_mk (x0a,x0b,x1,()) (by kernel_rfl) ⟨by kernel_rfl,by kernel_rfl,trivial⟩ h)

end F112
namespace F114
abbrev E:=En 15
def O (k:Nat):=ob Tryz.f114 (pth k)
abbrev R (i k:Nat):Code:=.region i ⟨O k⟩ false
def ret (P:PT):EP:=retE T0 15 Tryz.f114 P
abbrev k0:Sk:=[(0,J),(1,J),(2,J)]
def B1 (P:PT):Y k0:=fun x0 x1 x2 H=>
  pif (decide ((x1:Int)≤x0)) (P (bool (decide ((x0:Int)≤x2))) H) (P (bool false) H)
def B2 (P:PT):Y k0:=fun x0 x1 x2 H=>
  B1 P x0 x1 x2 H
def code:Code:=(.seq (R 0 2) (.seq (R 1 6) .ret))
theorem body:Tryz.f114.body=some code:=by kernel_rfl
theorem main P:Z 15 k0 (B2 P) code (ret P):=
  (r_seq (b (E k0 (B1 P))) (r_seq (b (ret P)) r_ret))
theorem ac (P:PT) (x0 x1 x2:Int) (H:AHeap) (h:B2 P x0 x1 x2 H):A 114 [(I x0),(I x1),(I x2)] H P:=
  r_fn T0_ok (c:=code) (n:=15) Tryz.func114 body (by kernel_rfl) (main P) (En_mk (x0,x1,x2,()) (by kernel_rfl) ⟨by kernel_rfl,by kernel_rfl,by kernel_rfl,trivial⟩ h)

end F114
namespace F115
abbrev E:=En 5
def O (k:Nat):=ob Tryz.f115 (pth k)
abbrev R (i k:Nat):Code:=.region i ⟨O k⟩ false
def ret (P:PT):EP:=retE T0 5 Tryz.f115 P
abbrev k0:Sk:=[(0,.v)]
def B1 (P:PT):Y k0:=fun x0 H=>
  lenK x0 (fun n1=>P (I (n1:Int)) H)
def B2 (P:PT):Y k0:=fun x0 H=>
  B1 P x0 H
def code:Code:=(.seq (R 0 2) (.seq (R 1 6) .ret))
theorem body:Tryz.f115.body=some code:=by kernel_rfl
theorem main P:Z 5 k0 (B2 P) code (ret P):=
  (r_seq (b (E k0 (B1 P))) (r_seq (b (ret P)) r_ret))
theorem ac (P:PT) (x0:Value) (H:AHeap) (h:B2 P x0 H):A 115 [x0] H P:=
  r_fn T0_ok (c:=code) (n:=5) Tryz.func115 body (by kernel_rfl) (main P) (En_mk (x0,()) (by kernel_rfl) ⟨by kernel_rfl,trivial⟩ h)

end F115
end
end Go.Proofs
