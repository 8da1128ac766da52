import Derived.Test.YtngacbdogjmpaaaGreatX35S
set_option linter.unusedVariables false
set_option maxRecDepth 100000
namespace Go.Proofs
open Go.Abs
open Value IntKind
noncomputable section
namespace F3
abbrev E:=En 338
def O (k:Nat):=ob Tryz.f3 (pth k)
abbrev R (i k:Nat):Code:=.region i ⟨O k⟩ false
def ret (P:PT):EP:=retE T0 338 Tryz.f3 P
abbrev k0:Sk:=[(40,.b),(41,J),(42,.b),(43,J),(46,.b),(47,J),(48,.b),(49,J)]
def B1 (P:PT):Y k0:=fun x40 x41 x42 x43 x46 x47 x48 x49 H=>
  pif ((x41:Int)==x43) (pif (x40==x42) (pif ((x47:Int)==x49) (P (bool (x46==x48)) H) (P (bool false) H)) (P (bool false) H)) (P (bool false) H)
abbrev k1:Sk:=[(40,.b),(41,J),(42,.b),(43,J),(44,.x),(45,.v),(46,.b),(47,J)]
def o2:=O 33554430
def B2 (P:PT):Y k1:=fun x40 x41 x42 x43 x44 x45 x46 x47 H=>
  li H x44 0 (fun v1=>ld1 H x44 1 (fun v2=>A 23 [(agg ⟨[(I v1),v2]⟩),x45] H (fun v3 H4=>tup2 v3 (fun v5 v6=>asB v5 (fun v7=>asI .i64 v6 (fun v8=>B1 P x40 x41 x42 x43 x46 x47 v7 v8 H4))))))
abbrev k2:Sk:=[(40,.b),(41,J),(42,.b),(43,J),(44,.x),(45,.v)]
def o3:=O 16777214
def B3 (P:PT):Y k2:=fun x40 x41 x42 x43 x44 x45 H=>
  li H x44 0 (fun v1=>ld1 H x44 1 (fun v2=>A 10 [(agg ⟨[(I v1),v2]⟩),x45] H (fun v3 H4=>tup2 v3 (fun v5 v6=>asB v5 (fun v7=>asI .i64 v6 (fun v8=>B2 P x40 x41 x42 x43 x44 x45 v7 v8 H4))))))
abbrev k3:Sk:=[(0,.v),(40,.b),(41,J),(42,.b),(43,J)]
def o4:=O 8388606
def B4 (P:PT):Y k3:=fun x0 x40 x41 x42 x43 H=>
  A 22 [x0] H (fun v1 H2=>tup2 v1 (fun v3 v4=>agg2 v3 (fun v5 v6=>asI .i64 v5 (fun v7=>newK H2 [(I 0),(slice none 0 0)] 26 (fun b10 H11=>stK H11 b10 0 [(I v7),v6] (fun H12=>B3 P x40 x41 x42 x43 b10 v4 H12))))))
abbrev k4:Sk:=[(0,.v),(38,.x),(39,.v),(40,.b),(41,J)]
def B5 (P:PT):Y k4:=fun x0 x38 x39 x40 x41 H=>
  li H x38 0 (fun v1=>ld1 H x38 1 (fun v2=>A 21 [(agg ⟨[(I v1),v2]⟩),x39] H (fun v3 H4=>tup2 v3 (fun v5 v6=>asB v5 (fun v7=>asI .i64 v6 (fun v8=>B4 P x0 x40 x41 v7 v8 H4))))))
abbrev k5:Sk:=[(0,.v),(38,.x),(39,.v)]
def o6:=O 2097150
def B6 (P:PT):Y k5:=fun x0 x38 x39 H=>
  li H x38 0 (fun v1=>ld1 H x38 1 (fun v2=>A 15 [(agg ⟨[(I v1),v2]⟩),x39] H (fun v3 H4=>tup2 v3 (fun v5 v6=>asB v5 (fun v7=>asI .i64 v6 (fun v8=>B5 P x0 x38 x39 v7 v8 H4))))))
abbrev k6:Sk:=[(0,.v)]
def B7 (P:PT):Y k6:=fun x0 H=>
  A 20 [x0] H (fun v1 H2=>tup2 v1 (fun v3 v4=>agg2 v3 (fun v5 v6=>asI .i64 v5 (fun v7=>newK H2 [(I 0),(slice none 0 0)] 26 (fun b10 H11=>stK H11 b10 0 [(I v7),v6] (fun H12=>B6 P x0 b10 v4 H12))))))
abbrev k7:Sk:=[]
def B8 (P:PT):Y k7:=fun H=>
  P (bool false) H
abbrev k8:Sk:=[(0,.v),(29,.v),(36,J),(37,J)]
def B9 (P:PT):Y k8:=fun x0 x29 x36 x37 H=>
  pif ((x37:Int) != 0) (B8 P H) (lenK x29 (fun n1=>pif (decide (((n1:Int):Int)<1)) (B8 P H) (idxK x29 0 1 (fun b2 o3=>ld1 H b2 o3 (fun v4=>lenK v4 (fun n5=>pif (((n5:Int):Int) != x36) (B8 P H) (B7 P x0 H)))))))
abbrev k9:Sk:=[(0,.v),(28,.x),(29,.v)]
def B10 (P:PT):Y k9:=fun x0 x28 x29 H=>
  li H x28 0 (fun v1=>ld1 H x28 1 (fun v2=>A 19 [(agg ⟨[(I v1),v2]⟩)] H (fun v3 H4=>tup2 v3 (fun v5 v6=>asI .i64 v5 (fun v7=>asI .i64 v6 (fun v8=>B9 P x0 x29 v7 v8 H4))))))
abbrev k10:Sk:=[(0,.v),(28,.x),(29,.v),(30,J)]
def B11 (P:PT):Y k10:=fun x0 x28 x29 x30 H=>
  pif ((x30:Int)==0) (B10 P x0 x28 x29 H) (B7 P x0 H)
abbrev k11:Sk:=[(0,.v),(28,.x),(29,.v),(30,J),(33,J)]
def B13 (P:PT) (N12:Y k11):Y k11:=fun x0 x28 x29 x30 x33 H=>
  N12 x0 x28 x29 x30 (i64.wrap (x33+1)) H
def B14 (P:PT) (N12:Y k11):Y k7:=fun H=>
  P (bool false) H
abbrev k12:Sk:=[(0,.v),(28,.x),(29,.v),(30,J),(33,J),(34,.b),(35,J)]
def o15:=O 67108498
def B15 (P:PT) (N12:Y k11):Y k12:=fun x0 x28 x29 x30 x33 x34 x35 H=>
  pif ((x35:Int) != 0) (B14 P N12 H) (pif (!x34) (B14 P N12 H) (pif (decide ((x33:Int)>0)) (idxK x29 (i64.wrap (x33-1)) 1 (fun b1 o2=>ld1 H b1 o2 (fun v3=>lenK v3 (fun n4=>idxK x29 x33 1 (fun b5 o6=>ld1 H b5 o6 (fun v7=>lenK v7 (fun n8=>pif (decide (((n4:Int):Int)>(n8:Int))) (B14 P N12 H) (B13 P N12 x0 x28 x29 x30 x33 H)))))))) (B13 P N12 x0 x28 x29 x30 x33 H)))
theorem q15 (P:PT) (N12:Y k11):QD Tryz.prog T0 338 o15 [(0,false),(1,false),(2,false),(3,false),(4,false),(5,false),(6,false),(7,false),(8,false),(9,false),(10,false),(11,false),(12,false),(13,false),(14,false),(15,false),(16,false),(17,false),(18,false),(19,false),(20,false),(21,false),(22,false),(23,false)] (cnd 263 (En 338 k7 (B14 P N12)) (En 338 k11 (B13 P N12))) k12 (B15 P N12):=fun _ _ _ _ _ _ _ _ _  => by kernel_rfl
def o16:=O 33554248
def B16 (P:PT) (N12:Y k11):Y k11:=fun x0 x28 x29 x30 x33 H=>
  li H x28 0 (fun v1=>ld1 H x28 1 (fun v2=>idxK x29 x33 1 (fun b3 o4=>ld1 H b3 o4 (fun v5=>A 10 [(agg ⟨[(I v1),v2]⟩),v5] H (fun v6 H7=>tup2 v6 (fun v8 v9=>asB v8 (fun v10=>asI .i64 v9 (fun v11=>B15 P N12 x0 x28 x29 x30 x33 v10 v11 H7))))))))
theorem q16 (P:PT) (N12:Y k11):QD Tryz.prog T0 338 o16 [(0,false),(1,false),(2,false),(3,false),(4,false),(5,false),(6,false),(7,false),(8,false),(9,false),(10,false)] (En 338 k12 (B15 P N12)) k11 (B16 P N12):=fun _ _ _ _ _ _ _  => by kernel_rfl
def B17 (P:PT) (N12:Y k11):Y k11:=fun x0 x28 x29 x30 x33 H=>
  lenK x29 (fun n1=>pif (decide ((x33:Int)<(n1:Int))) (pif (decide ((x33:Int)<30)) (B16 P N12 x0 x28 x29 x30 x33 H) (B11 P x0 x28 x29 x30 H)) (B11 P x0 x28 x29 x30 H))
def L12 (P:PT):Y k11:=fun x0 x28 x29 x30 x33 H=>
  ∃ (I:Y k11) (μ:NTy k11 (AHeap→Nat)),I x0 x28 x29 x30 x33 H∧∀ y0 y28 y29 y30 y33 G,I y0 y28 y29 y30 y33 G→B17 P (fun z0 z28 z29 z30 z33 G'=>I z0 z28 z29 z30 z33 G'∧μ z0 z28 z29 z30 z33 G'<μ y0 y28 y29 y30 y33 G) y0 y28 y29 y30 y33 G
theorem l12 P:LQ k11 (L12 P) (B17 P):=fun ⟨_,_,_,_,_,_⟩ _ ⟨I,μ,h0,hI⟩=>⟨apT _ I,apT _ μ,h0,fun ⟨_,_,_,_,_,_⟩ _ h=>hI _ _ _ _ _ _  h⟩
def B18 (P:PT):Y k10:=fun x0 x28 x29 x30 H=>
  L12 P x0 x28 x29 x30 0 H
def B19 (P:PT):Y k7:=fun H=>
  P (bool false) H
abbrev k13:Sk:=[(0,.v),(28,.x),(29,.v),(30,J),(31,.v),(32,J)]
def B20 (P:PT):Y k13:=fun x0 x28 x29 x30 x31 x32 H=>
  pif ((x30:Int) != x32) (B19 P H) (A 9 [x29,x31] H (fun v1 H2=>asB v1 (fun v3=>pif (!v3) (B19 P H2) (B18 P x0 x28 x29 x30 H2))))
def B21 (P:PT):Y k10:=fun x0 x28 x29 x30 H=>
  li H x28 0 (fun v1=>ld1 H x28 1 (fun v2=>A 18 [(agg ⟨[(I v1),v2]⟩)] H (fun v3 H4=>tup2 v3 (fun v5 v6=>asI .i64 v6 (fun v8=>B20 P x0 x28 x29 x30 v5 v8 H4)))))
abbrev k14:Sk:=[(0,.v),(28,.x)]
def B22 (P:PT):Y k14:=fun x0 x28 H=>
  li H x28 0 (fun v1=>ld1 H x28 1 (fun v2=>A 17 [(agg ⟨[(I v1),v2]⟩)] H (fun v3 H4=>tup2 v3 (fun v5 v6=>asI .i64 v6 (fun v8=>B21 P x0 x28 v5 v8 H4)))))
def B23 (P:PT):Y k6:=fun x0 H=>
  A 16 [x0] H (fun v1 H2=>agg2 v1 (fun v3 v4=>asI .i64 v3 (fun v5=>newK H2 [(I 0),(slice none 0 0)] 26 (fun b7 H8=>stK H8 b7 0 [(I v5),v4] (fun H9=>B22 P x0 b7 H9)))))
def B24 (P:PT):Y k7:=fun H=>
  P (bool false) H
abbrev k15:Sk:=[(0,.v),(22,.b),(23,J),(24,.b),(25,J),(26,.b),(27,J)]
def B25 (P:PT):Y k15:=fun x0 x22 x23 x24 x25 x26 x27 H=>
  pif ((x23:Int) != 0) (B24 P H) (pif ((x25:Int) != 0) (B24 P H) (pif ((x27:Int) != 0) (B24 P H) (pif x22 (pif x24 (pif (!x26) (B24 P H) (pif x22 (pif (!x24) (pif x26 (B24 P H) (B23 P x0 H)) (B23 P x0 H)) (B23 P x0 H))) (pif x22 (pif (!x24) (pif x26 (B24 P H) (B23 P x0 H)) (B23 P x0 H)) (B23 P x0 H))) (pif x22 (pif (!x24) (pif x26 (B24 P H) (B23 P x0 H)) (B23 P x0 H)) (B23 P x0 H)))))
abbrev k16:Sk:=[(0,.v),(15,.x),(18,.v),(22,.b),(23,J),(24,.b),(25,J)]
def B26 (P:PT):Y k16:=fun x0 x15 x18 x22 x23 x24 x25 H=>
  li H x15 0 (fun v1=>ld1 H x15 1 (fun v2=>A 15 [(agg ⟨[(I v1),v2]⟩),x18] H (fun v3 H4=>tup2 v3 (fun v5 v6=>asB v5 (fun v7=>asI .i64 v6 (fun v8=>B25 P x0 x22 x23 x24 x25 v7 v8 H4))))))
abbrev k17:Sk:=[(0,.v),(15,.x),(17,.v),(18,.v),(22,.b),(23,J)]
def B27 (P:PT):Y k17:=fun x0 x15 x17 x18 x22 x23 H=>
  li H x15 0 (fun v1=>ld1 H x15 1 (fun v2=>A 15 [(agg ⟨[(I v1),v2]⟩),x17] H (fun v3 H4=>tup2 v3 (fun v5 v6=>asB v5 (fun v7=>asI .i64 v6 (fun v8=>B26 P x0 x15 x18 x22 x23 v7 v8 H4))))))
abbrev k18:Sk:=[(0,.v),(15,.x),(16,.v),(17,.v),(18,.v)]
def B28 (P:PT):Y k18:=fun x0 x15 x16 x17 x18 H=>
  li H x15 0 (fun v1=>ld1 H x15 1 (fun v2=>A 15 [(agg ⟨[(I v1),v2]⟩),x16] H (fun v3 H4=>tup2 v3 (fun v5 v6=>asB v5 (fun v7=>asI .i64 v6 (fun v8=>B27 P x0 x15 x17 x18 v7 v8 H4))))))
abbrev k19:Sk:=[(0,.v),(15,.x),(16,.v),(17,.v),(18,.v),(19,J)]
def B29 (P:PT):Y k19:=fun x0 x15 x16 x17 x18 x19 H=>
  pif ((x19:Int)==0) (B28 P x0 x15 x16 x17 x18 H) (B23 P x0 H)
def B30 (P:PT):Y k7:=fun H=>
  P (bool false) H
abbrev k20:Sk:=[(0,.v),(15,.x),(16,.v),(17,.v),(18,.v),(19,J),(20,.v),(21,J)]
def B31 (P:PT):Y k20:=fun x0 x15 x16 x17 x18 x19 x20 x21 H=>
  pif ((x19:Int) != x21) (B30 P H) (A 12 [x18,x20] H (fun v1 H2=>asB v1 (fun v3=>pif (!v3) (B30 P H2) (B29 P x0 x15 x16 x17 x18 x19 H2))))
def B32 (P:PT):Y k19:=fun x0 x15 x16 x17 x18 x19 H=>
  li H x15 0 (fun v1=>ld1 H x15 1 (fun v2=>A 14 [(agg ⟨[(I v1),v2]⟩),x16,x17] H (fun v3 H4=>tup2 v3 (fun v5 v6=>asI .i64 v6 (fun v8=>B31 P x0 x15 x16 x17 x18 x19 v5 v8 H4)))))
abbrev k21:Sk:=[(0,.v),(15,.x),(16,.v),(17,.v)]
def B33 (P:PT):Y k21:=fun x0 x15 x16 x17 H=>
  li H x15 0 (fun v1=>ld1 H x15 1 (fun v2=>A 11 [(agg ⟨[(I v1),v2]⟩),x16,x17] H (fun v3 H4=>tup2 v3 (fun v5 v6=>asI .i64 v6 (fun v8=>B32 P x0 x15 x16 x17 v5 v8 H4)))))
def B34 (P:PT):Y k6:=fun x0 H=>
  A 13 [x0] H (fun v1 H2=>tup3 v1 (fun v3 v4 v5=>agg2 v3 (fun v6 v7=>asI .i64 v6 (fun v8=>newK H2 [(I 0),(slice none 0 0)] 26 (fun b12 H13=>stK H13 b12 0 [(I v8),v7] (fun H14=>B33 P x0 b12 v4 v5 H14))))))
def B35 (P:PT):Y k7:=fun H=>
  P (bool false) H
abbrev k22:Sk:=[(0,.v),(4,.v),(9,.v)]
def B36 (P:PT):Y k22:=fun x0 x4 x9 H=>
  A 12 [x9,x4] H (fun v1 H2=>asB v1 (fun v3=>pif (!v3) (B35 P H2) (B34 P x0 H2)))
abbrev k23:Sk:=[(0,.v),(3,.x),(4,.v),(5,.v),(9,.v),(10,J)]
def B38 (P:PT) (N37:Y k23):Y k23:=fun x0 x3 x4 x5 x9 x10 H=>
  N37 x0 x3 x4 x5 x9 (i64.wrap (x10+1)) H
abbrev k24:Sk:=[(0,.v),(3,.x),(4,.v),(5,.v),(10,J),(13,.v)]
def B39 (P:PT) (N37:Y k23):Y k24:=fun x0 x3 x4 x5 x10 x13 H=>
  B38 P N37 x0 x3 x4 x5 x13 x10 H
def B40 (P:PT) (N37:Y k23):Y k7:=fun H=>
  P (bool false) H
abbrev k25:Sk:=[(0,.v),(3,.x),(4,.v),(5,.v),(10,J),(11,.b),(12,J),(13,.v),(14,J)]
def B41 (P:PT) (N37:Y k23):Y k25:=fun x0 x3 x4 x5 x10 x11 x12 x13 x14 H=>
  pif ((x12:Int) != 0) (B40 P N37 H) (pif ((x14:Int) != 0) (B40 P N37 H) (pif (!x11) (B40 P N37 H) (B39 P N37 x0 x3 x4 x5 x10 x13 H)))
abbrev k26:Sk:=[(0,.v),(3,.x),(4,.v),(5,.v),(9,.v),(10,J),(11,.b),(12,J)]
def o42:=O 1043090
def B42 (P:PT) (N37:Y k23):Y k26:=fun x0 x3 x4 x5 x9 x10 x11 x12 H=>
  li H x3 0 (fun v1=>ld1 H x3 1 (fun v2=>idxK x5 x10 1 (fun b3 o4=>ld1 H b3 o4 (fun v5=>A 11 [(agg ⟨[(I v1),v2]⟩),x9,v5] H (fun v6 H7=>tup2 v6 (fun v8 v9=>asI .i64 v9 (fun v11=>B41 P N37 x0 x3 x4 x5 x10 x11 x12 v8 v11 H7)))))))
theorem q42 (P:PT) (N37:Y k23):QD Tryz.prog T0 338 o42 [(0,false),(1,false),(2,false),(3,false),(4,false),(5,false),(6,false),(7,false),(8,false),(9,false),(10,false),(11,false)] (En 338 k25 (B41 P N37)) k26 (B42 P N37):=fun _ _ _ _ _ _ _ _ _ _  => by kernel_rfl
def o43:=O 521544
def B43 (P:PT) (N37:Y k23):Y k23:=fun x0 x3 x4 x5 x9 x10 H=>
  li H x3 0 (fun v1=>ld1 H x3 1 (fun v2=>idxK x5 x10 1 (fun b3 o4=>ld1 H b3 o4 (fun v5=>A 10 [(agg ⟨[(I v1),v2]⟩),v5] H (fun v6 H7=>tup2 v6 (fun v8 v9=>asB v8 (fun v10=>asI .i64 v9 (fun v11=>B42 P N37 x0 x3 x4 x5 x9 x10 v10 v11 H7))))))))
theorem q43 (P:PT) (N37:Y k23):QD Tryz.prog T0 338 o43 [(0,false),(1,false),(2,false),(3,false),(4,false),(5,false),(6,false),(7,false),(8,false),(9,false),(10,false)] (En 338 k26 (B42 P N37)) k23 (B43 P N37):=fun _ _ _ _ _ _ _ _  => by kernel_rfl
def B44 (P:PT) (N37:Y k23):Y k23:=fun x0 x3 x4 x5 x9 x10 H=>
  lenK x5 (fun n1=>pif (decide ((x10:Int)<(n1:Int))) (B43 P N37 x0 x3 x4 x5 x9 x10 H) (B36 P x0 x4 x9 H))
def L37 (P:PT):Y k23:=fun x0 x3 x4 x5 x9 x10 H=>
  ∃ (I:Y k23) (μ:NTy k23 (AHeap→Nat)),I x0 x3 x4 x5 x9 x10 H∧∀ y0 y3 y4 y5 y9 y10 G,I y0 y3 y4 y5 y9 y10 G→B44 P (fun z0 z3 z4 z5 z9 z10 G'=>I z0 z3 z4 z5 z9 z10 G'∧μ z0 z3 z4 z5 z9 z10 G'<μ y0 y3 y4 y5 y9 y10 G) y0 y3 y4 y5 y9 y10 G
theorem l37 P:LQ k23 (L37 P) (B44 P):=fun ⟨_,_,_,_,_,_,_⟩ _ ⟨I,μ,h0,hI⟩=>⟨apT _ I,apT _ μ,h0,fun ⟨_,_,_,_,_,_,_⟩ _ h=>hI _ _ _ _ _ _ _  h⟩
abbrev k27:Sk:=[(0,.v),(3,.x),(4,.v),(5,.v),(9,.v)]
def B45 (P:PT):Y k27:=fun x0 x3 x4 x5 x9 H=>
  L37 P x0 x3 x4 x5 x9 0 H
abbrev k28:Sk:=[(0,.v),(3,.x),(4,.v),(5,.v)]
def B46 (P:PT):Y k28:=fun x0 x3 x4 x5 H=>
  newK H [] 2 (fun b1 H2=>B45 P x0 x3 x4 x5 (slice (some ⟨b1,0,none⟩) 0 (0+1)) H2)
abbrev k29:Sk:=[(0,.v),(3,.x),(4,.v),(5,.v),(6,J)]
def B47 (P:PT):Y k29:=fun x0 x3 x4 x5 x6 H=>
  pif ((x6:Int)==0) (B46 P x0 x3 x4 x5 H) (B34 P x0 H)
def B48 (P:PT):Y k7:=fun H=>
  P (bool false) H
abbrev k30:Sk:=[(0,.v),(3,.x),(4,.v),(5,.v),(6,J),(7,.v),(8,J)]
def B49 (P:PT):Y k30:=fun x0 x3 x4 x5 x6 x7 x8 H=>
  pif ((x6:Int) != x8) (B48 P H) (A 9 [x5,x7] H (fun v1 H2=>asB v1 (fun v3=>pif (!v3) (B48 P H2) (B47 P x0 x3 x4 x5 x6 H2))))
def B50 (P:PT):Y k29:=fun x0 x3 x4 x5 x6 H=>
  li H x3 0 (fun v1=>ld1 H x3 1 (fun v2=>A 8 [(agg ⟨[(I v1),v2]⟩),x4] H (fun v3 H4=>tup2 v3 (fun v5 v6=>asI .i64 v6 (fun v8=>B49 P x0 x3 x4 x5 x6 v5 v8 H4)))))
abbrev k31:Sk:=[(0,.v),(3,.x),(4,.v)]
def B51 (P:PT):Y k31:=fun x0 x3 x4 H=>
  li H x3 0 (fun v1=>ld1 H x3 1 (fun v2=>A 7 [(agg ⟨[(I v1),v2]⟩),x4] H (fun v3 H4=>tup2 v3 (fun v5 v6=>asI .i64 v6 (fun v8=>B50 P x0 x3 x4 v5 v8 H4)))))
def B52 (P:PT):Y k6:=fun x0 H=>
  A 6 [x0] H (fun v1 H2=>tup2 v1 (fun v3 v4=>agg2 v3 (fun v5 v6=>asI .i64 v5 (fun v7=>newK H2 [(I 0),(slice none 0 0)] 26 (fun b10 H11=>stK H11 b10 0 [(I v7),v6] (fun H12=>B51 P x0 b10 v4 H12))))))
def B53 (P:PT):Y k7:=fun H=>
  P (bool true) H
def B54 (P:PT):Y k6:=fun x0 H=>
  A 5 [x0] H (fun v1 H2=>asB v1 (fun v3=>pif v3 (B53 P H2) (B52 P x0 H2)))
def B55 (P:PT):Y k6:=fun x0 H=>
  B54 P x0 H
def code:Code:=(.seq (R 0 2) (.seq (.seq (R 1 12) (.cond (.tmp 51) (.seq (R 2 52) .ret) .skip)) (.seq (R 3 14) (.seq (R 4 30) (.seq (R 5 62) (.seq (.seq (R 6 252) (.cond (.tmp 77) (.seq (R 7 1012) .ret) .skip)) (.seq (.seq (R 8 508) (.cond (.tmp 79) (.seq (R 9 2036) (.seq (.seq (R 10 8148) (.block 0 (.loop (.seq (.seq (R 11 130384) (.cond (.tmp 84) .skip (.exit 0))) (.seq (.block 1 (.seq (.region 13 ⟨o43⟩ true) (.seq (.region 14 ⟨o42⟩ true) (.seq (.seq (R 15 4172364) (.cond (.tmp 115) (.seq (R 16 16689460) .ret) .skip)) (R 17 2086183))))) (R 12 130387)))))) (.seq (R 18 8150) (.cond (.tmp 120) (.seq (R 19 32604) .ret) .skip)))) .skip)) (.seq (R 20 510) (.seq (R 21 1022) (.seq (R 22 2046) (.seq (.seq (R 23 8188) (.cond (.tmp 149) (.seq (R 24 32756) .ret) .skip)) (.seq (.seq (R 25 16380) (.cond (.tmp 151) (.seq (R 26 65524) (.seq (R 27 131050) (.seq (R 28 262102) (.seq (R 29 524206) (.cond (.tmp 199) (.seq (R 30 2096828) .ret) .skip))))) .skip)) (.seq (R 31 16382) (.seq (R 32 32766) (.seq (R 33 65534) (.seq (.seq (R 34 262140) (.cond (.tmp 220) (.seq (R 35 1048564) .ret) .skip)) (.seq (.seq (R 36 524284) (.block 2 (.loop (.seq (.seq (R 37 8388560) (.cond (.tmp 228) .skip (.exit 2))) (.seq (.block 3 (.seq (.region 39 ⟨o16⟩ true) (.seq (.region 40 ⟨o15⟩ true) (.cond (.tmp 263) (.seq (R 41 268433996) .ret) .skip)))) (R 38 8388563)))))) (.seq (.seq (R 42 1048572) (.cond (.tmp 265) (.seq (R 43 4194292) (.seq (R 44 8388586) (.cond (.tmp 285) (.seq (R 45 33554348) .ret) .skip))) .skip)) (.seq (R 46 1048574) (.seq (R 47 2097150) (.seq (R 48 4194302) (.seq (R 49 8388606) (.seq (R 50 16777214) (.seq (R 51 33554430) (.seq (R 52 67108862) .ret)))))))))))))))))))))))))
theorem body:Tryz.f3.body=some code:=by kernel_rfl
theorem main P:Z 338 k6 (B55 P) code (ret P):=
  (r_seq (b (E k6 (B54 P))) (r_seq (r_seq (b (cnd 51 (E k7 (B53 P)) (E k6 (B52 P)))) (r_cond rfl (r_seq (b (ret P)) r_ret) r_skip)) (r_seq (b (E k31 (B51 P))) (r_seq (b (E k29 (B50 P))) (r_seq (b (E k30 (B49 P))) (r_seq (r_seq (b (cnd 77 (E k7 (B48 P)) (E k29 (B47 P)))) (r_cond rfl (r_seq (b (ret P)) r_ret) r_skip)) (r_seq (r_seq (b (cnd 79 (E k28 (B46 P)) (E k6 (B34 P)))) (r_cond rfl (r_seq (b (E k27 (B45 P))) (r_seq (r_seq (b (E k23 (L37 P))) (r_block (rL (l37 P) (fun N37=>(r_seq (r_seq (b (cnd 84 (E k23 (B43 P N37)) (E k22 (B36 P)))) (r_cond rfl r_skip (r_exit (fun _ _ h=>h)))) (r_seq (r_block (r_seq (rD T0_ok mixed [(0,false),(1,false),(2,false),(3,false),(4,false),(5,false),(6,false),(7,false),(8,false),(9,false),(10,false)] (by kernel_rfl) (q43 P N37)) (r_seq (rD T0_ok mixed [(0,false),(1,false),(2,false),(3,false),(4,false),(5,false),(6,false),(7,false),(8,false),(9,false),(10,false),(11,false)] (by kernel_rfl) (q42 P N37)) (r_seq (r_seq (b (cnd 115 (E k7 (B40 P N37)) (E k24 (B39 P N37)))) (r_cond rfl (r_seq (b (ret P)) r_ret) r_skip)) (b (E k23 (B38 P N37))))))) (b (E k23 N37)))))))) (r_seq (b (cnd 120 (E k7 (B35 P)) (E k6 (B34 P)))) (r_cond rfl (r_seq (b (ret P)) r_ret) r_skip)))) r_skip)) (r_seq (b (E k21 (B33 P))) (r_seq (b (E k19 (B32 P))) (r_seq (b (E k20 (B31 P))) (r_seq (r_seq (b (cnd 149 (E k7 (B30 P)) (E k19 (B29 P)))) (r_cond rfl (r_seq (b (ret P)) r_ret) r_skip)) (r_seq (r_seq (b (cnd 151 (E k18 (B28 P)) (E k6 (B23 P)))) (r_cond rfl (r_seq (b (E k17 (B27 P))) (r_seq (b (E k16 (B26 P))) (r_seq (b (E k15 (B25 P))) (r_seq (b (cnd 199 (E k7 (B24 P)) (E k6 (B23 P)))) (r_cond rfl (r_seq (b (ret P)) r_ret) r_skip))))) r_skip)) (r_seq (b (E k14 (B22 P))) (r_seq (b (E k10 (B21 P))) (r_seq (b (E k13 (B20 P))) (r_seq (r_seq (b (cnd 220 (E k7 (B19 P)) (E k10 (B18 P)))) (r_cond rfl (r_seq (b (ret P)) r_ret) r_skip)) (r_seq (r_seq (b (E k11 (L12 P))) (r_block (rL (l12 P) (fun N12=>(r_seq (r_seq (b (cnd 228 (E k11 (B16 P N12)) (E k10 (B11 P)))) (r_cond rfl r_skip (r_exit (fun _ _ h=>h)))) (r_seq (r_block (r_seq (rD T0_ok mixed [(0,false),(1,false),(2,false),(3,false),(4,false),(5,false),(6,false),(7,false),(8,false),(9,false),(10,false)] (by kernel_rfl) (q16 P N12)) (r_seq (rD T0_ok mixed [(0,false),(1,false),(2,false),(3,false),(4,false),(5,false),(6,false),(7,false),(8,false),(9,false),(10,false),(11,false),(12,false),(13,false),(14,false),(15,false),(16,false),(17,false),(18,false),(19,false),(20,false),(21,false),(22,false),(23,false)] (by kernel_rfl) (q15 P N12)) (r_cond rfl (r_seq (b (ret P)) r_ret) r_skip)))) (b (E k11 N12)))))))) (r_seq (r_seq (b (cnd 265 (E k9 (B10 P)) (E k6 (B7 P)))) (r_cond rfl (r_seq (b (E k8 (B9 P))) (r_seq (b (cnd 285 (E k7 (B8 P)) (E k6 (B7 P)))) (r_cond rfl (r_seq (b (ret P)) r_ret) r_skip))) r_skip)) (r_seq (b (E k5 (B6 P))) (r_seq (b (E k4 (B5 P))) (r_seq (b (E k3 (B4 P))) (r_seq (b (E k2 (B3 P))) (r_seq (b (E k1 (B2 P))) (r_seq (b (E k0 (B1 P))) (r_seq (b (ret P)) r_ret)))))))))))))))))))))))))
theorem ac (P:PT) (x0:Value) (H:AHeap) (h:B55 P x0 H):A 3 [x0] H P:=
  r_fn T0_ok (c:=code) (n:=338) Tryz.func3 body (by kernel_rfl) (main P) (En_mk (x0,()) (by kernel_rfl) ⟨by kernel_rfl,trivial⟩ h)

end F3
namespace F5
abbrev E:=En 6
def O (k:Nat):=ob Tryz.f5 (pth k)
abbrev R (i k:Nat):Code:=.region i ⟨O k⟩ false
def ret (P:PT):EP:=retE T0 6 Tryz.f5 P
abbrev k0:Sk:=[(0,.v)]
def B1 (P:PT):Y k0:=fun x0 H=>
  lenK x0 (fun n1=>P (bool (decide (((n1:Int):Int)>4096))) H)
def B2 (P:PT):Y k0:=fun x0 H=>
  B1 P x0 H
def code:Code:=(.seq (R 0 2) (.seq (R 1 6) .ret))
theorem body:Tryz.f5.body=some code:=by kernel_rfl
theorem main P:Z 6 k0 (B2 P) code (ret P):=
  (r_seq (b (E k0 (B1 P))) (r_seq (b (ret P)) r_ret))
theorem ac (P:PT) (x0:Value) (H:AHeap) (h:B2 P x0 H):A 5 [x0] H P:=
  r_fn T0_ok (c:=code) (n:=6) Tryz.func5 body (by kernel_rfl) (main P) (En_mk (x0,()) (by kernel_rfl) ⟨by kernel_rfl,trivial⟩ h)

end F5
namespace F6
abbrev E:=En 13
def O (k:Nat):=ob Tryz.f6 (pth k)
abbrev R (i k:Nat):Code:=.region i ⟨O k⟩ false
def ret (P:PT):EP:=retE T0 13 Tryz.f6 P
abbrev k0:Sk:=[(2,.x),(4,.x),(5,.v)]
def B1 (P:PT):Y k0:=fun x2 x4 x5 H=>
  li H x4 0 (fun v1=>ld1 H x4 1 (fun v2=>stK H x2 0 [(I v1),v2] (fun H3=>li H3 x2 0 (fun v4=>ld1 H3 x2 1 (fun v5=>P (tuple ⟨[(agg ⟨[(I v4),v5]⟩),x5]⟩) H3)))))
abbrev k1:Sk:=[(0,.v),(2,.x)]
def B2 (P:PT):Y k1:=fun x0 x2 H=>
  A 43 [x0] H (fun v1 H2=>tup2 v1 (fun v3 v4=>agg2 v3 (fun v5 v6=>asI .i64 v5 (fun v7=>newK H2 [(I 0),(slice none 0 0)] 26 (fun b10 H11=>stK H11 b10 0 [(I v7),v6] (fun H12=>B1 P x2 b10 v4 H12))))))
abbrev k2:Sk:=[(0,.v)]
def B3 (P:PT):Y k2:=fun x0 H=>
  newK H [(I 0),(slice none 0 0)] 26 (fun b1 H2=>B2 P x0 b1 H2)
def code:Code:=(.seq (R 0 2) (.seq (R 1 6) (.seq (R 2 14) .ret)))
theorem body:Tryz.f6.body=some code:=by kernel_rfl
theorem main P:Z 13 k2 (B3 P) code (ret P):=
  (r_seq (b (E k1 (B2 P))) (r_seq (b (E k0 (B1 P))) (r_seq (b (ret P)) r_ret)))
theorem ac (P:PT) (x0:Value) (H:AHeap) (h:B3 P x0 H):A 6 [x0] H P:=
  r_fn T0_ok (c:=code) (n:=13) Tryz.func6 body (by kernel_rfl) (main P) (En_mk (x0,()) (by kernel_rfl) ⟨by kernel_rfl,trivial⟩ h)

end F6
namespace F7
abbrev E:=En 23
def O (k:Nat):=ob Tryz.f7 (pth k)
abbrev R (i k:Nat):Code:=.region i ⟨O k⟩ false
def ret (P:PT):EP:=retE T0 23 Tryz.f7 P
abbrev k0:Sk:=[(1,.v),(2,.x)]
def o1:=O 30
def B1 (P:PT):Y k0:=fun x1 x2 H=>
  li H x2 0 (fun v1=>ld1 H x2 1 (fun v2=>A 46 [x1] H (fun v3 H4=>asI .u64 v3 (fun v5=>(AHeap.le H H4)∧(A 48 [(agg ⟨[(I v1),v2]⟩),(int .u64 v5)] H4 (fun v6 H7=>A 47 [v6] H7 (fun v9 H10=>P (tuple ⟨[v9,(I 0)]⟩) H10)))))))
theorem q1 (P:PT):QD Tryz.prog T0 23 o1 [(0,false),(1,false),(2,true),(3,false),(4,false),(5,false),(6,false)] (ret P) k0 (B1 P):=fun _ _ _ _  => by kernel_rfl
abbrev k1:Sk:=[]
def B2 (P:PT):Y k1:=fun H=>
  P (tuple ⟨[(slice none 0 0),(I 5)]⟩) H
def o3:=O 28
def B3 (P:PT):Y k0:=fun x1 x2 H=>
  li H x2 0 (fun v1=>ld1 H x2 1 (fun v2=>A 46 [x1] H (fun v3 H4=>asI .u64 v3 (fun v5=>(AHeap.le H H4)∧(A 45 [(agg ⟨[(I v1),v2]⟩),(int .u64 v5)] H4 (fun v6 H7=>asB v6 (fun v8=>pif (!v8) (B2 P H7) (B1 P x1 x2 H7))))))))
theorem q3 (P:PT):QD Tryz.prog T0 23 o3 [(0,false),(1,false),(2,true),(3,false),(4,false)] (cnd 17 (En 23 k1 (B2 P)) (En 23 k0 (B1 P))) k0 (B3 P):=fun _ _ _ _  => by kernel_rfl
abbrev k2:Sk:=[(6,J)]
def B4 (P:PT):Y k2:=fun x6 H=>
  P (tuple ⟨[(slice none 0 0),(I x6)]⟩) H
abbrev k3:Sk:=[(1,.v),(2,.x),(6,J)]
def B5 (P:PT):Y k3:=fun x1 x2 x6 H=>
  pif ((x6:Int) != 0) (B4 P x6 H) (B3 P x1 x2 H)
def B6 (P:PT):Y k0:=fun x1 x2 H=>
  li H x2 0 (fun v1=>ld1 H x2 1 (fun v2=>A 44 [(agg ⟨[(I v1),v2]⟩),x1] H (fun v3 H4=>asI .i64 v3 (fun v5=>B5 P x1 x2 v5 H4))))
abbrev k4:Sk:=[(0,.g [.i,.v]),(1,.v)]
def B7 (P:PT):Y k4:=fun x0a x0b x1 H=>
  newK H [(I x0a),x0b] 26 (fun b1 H2=>B6 P x1 b1 H2)
def code:Code:=(.seq (R 0 2) (.seq (.seq (R 1 12) (.seq (R 2 26) (.cond (.tmp 11) (.seq (R 3 108) .ret) .skip))) (.seq (.seq (.region 4 ⟨o3⟩ true) (.cond (.tmp 17) (.seq (R 5 116) .ret) .skip)) (.seq (.region 6 ⟨o1⟩ true) .ret))))
theorem body:Tryz.f7.body=some code:=by kernel_rfl
theorem main P:Z 23 k4 (B7 P) code (ret P):=
  (r_seq (b (E k0 (B6 P))) (r_seq (r_seq (b (E k3 (B5 P))) (r_seq (b (cnd 11 (E k2 (B4 P)) (E k0 (B3 P)))) (r_cond rfl (r_seq (b (ret P)) r_ret) r_skip))) (r_seq (r_seq (rD T0_ok mixed [(0,false),(1,false),(2,true),(3,false),(4,false)] (by kernel_rfl) (q3 P)) (r_cond rfl (r_seq (b (ret P)) r_ret) r_skip)) (r_seq (rD T0_ok mixed [(0,false),(1,false),(2,true),(3,false),(4,false),(5,false),(6,false)] (by kernel_rfl) (q1 P)) r_ret))))
theorem ac (P:PT) (x0a:Int) (x0b x1:Value) (H:AHeap) (h:B7 P x0a x0b x1 H):A 7 [(agg ⟨[(I x0a),x0b]⟩),x1] H P:=
  r_fn T0_ok (c:=code) (n:=23) Tryz.func7 body (by kernel_rfl) (main P) (En_mk (x0a,x0b,x1,()) (by kernel_rfl) ⟨by kernel_rfl,by kernel_rfl,trivial⟩ h)

end F7
namespace F8
abbrev E:=En 20
def O (k:Nat):=ob Tryz.f8 (pth k)
abbrev R (i k:Nat):Code:=.region i ⟨O k⟩ false
def ret (P:PT):EP:=retE T0 20 Tryz.f8 P
abbrev k0:Sk:=[(1,.v),(2,.x)]
def B1 (P:PT):Y k0:=fun x1 x2 H=>
  li H x2 0 (fun v1=>ld1 H x2 1 (fun v2=>A 51 [(agg ⟨[(I v1),v2]⟩),x1] H (fun v3 H4=>P (tuple ⟨[v3,(I 0)]⟩) H4)))
abbrev k1:Sk:=[]
def B2 (P:PT):Y k1:=fun H=>
  P (tuple ⟨[(slice none 0 0),(I 5)]⟩) H
def B3 (P:PT):Y k0:=fun x1 x2 H=>
  li H x2 0 (fun v1=>ld1 H x2 1 (fun v2=>A 50 [(agg ⟨[(I v1),v2]⟩),x1] H (fun v3 H4=>asB v3 (fun v5=>pif (!v5) (B2 P H4) (B1 P x1 x2 H4)))))
abbrev k2:Sk:=[(6,J)]
def B4 (P:PT):Y k2:=fun x6 H=>
  P (tuple ⟨[(slice none 0 0),(I x6)]⟩) H
abbrev k3:Sk:=[(1,.v),(2,.x),(6,J)]
def B5 (P:PT):Y k3:=fun x1 x2 x6 H=>
  pif ((x6:Int) != 0) (B4 P x6 H) (B3 P x1 x2 H)
def B6 (P:PT):Y k0:=fun x1 x2 H=>
  li H x2 0 (fun v1=>ld1 H x2 1 (fun v2=>A 49 [(agg ⟨[(I v1),v2]⟩),x1] H (fun v3 H4=>asI .i64 v3 (fun v5=>B5 P x1 x2 v5 H4))))
abbrev k4:Sk:=[(0,.g [.i,.v]),(1,.v)]
def B7 (P:PT):Y k4:=fun x0a x0b x1 H=>
  newK H [(I x0a),x0b] 26 (fun b1 H2=>B6 P x1 b1 H2)
def code:Code:=(.seq (R 0 2) (.seq (.seq (R 1 12) (.seq (R 2 26) (.cond (.tmp 11) (.seq (R 3 108) .ret) .skip))) (.seq (.seq (R 4 28) (.cond (.tmp 16) (.seq (R 5 116) .ret) .skip)) (.seq (R 6 30) .ret))))
theorem body:Tryz.f8.body=some code:=by kernel_rfl
theorem main P:Z 20 k4 (B7 P) code (ret P):=
  (r_seq (b (E k0 (B6 P))) (r_seq (r_seq (b (E k3 (B5 P))) (r_seq (b (cnd 11 (E k2 (B4 P)) (E k0 (B3 P)))) (r_cond rfl (r_seq (b (ret P)) r_ret) r_skip))) (r_seq (r_seq (b (cnd 16 (E k1 (B2 P)) (E k0 (B1 P)))) (r_cond rfl (r_seq (b (ret P)) r_ret) r_skip)) (r_seq (b (ret P)) r_ret))))
theorem ac (P:PT) (x0a:Int) (x0b x1:Value) (H:AHeap) (h:B7 P x0a x0b x1 H):A 8 [(agg ⟨[(I x0a),x0b]⟩),x1] H P:=
  r_fn T0_ok (c:=code) (n:=20) Tryz.func8 body (by kernel_rfl) (main P) (En_mk (x0a,x0b,x1,()) (by kernel_rfl) ⟨by kernel_rfl,by kernel_rfl,trivial⟩ h)

end F8
namespace F9
abbrev E:=En 27
def O (k:Nat):=ob Tryz.f9 (pth k)
abbrev R (i k:Nat):Code:=.region i ⟨O k⟩ false
def ret (P:PT):EP:=retE T0 27 Tryz.f9 P
abbrev k0:Sk:=[]
def B1 (P:PT):Y k0:=fun H=>
  P (bool true) H
abbrev k1:Sk:=[(0,.v),(1,.v),(5,J)]
def B3 (P:PT) (N2:Y k1):Y k1:=fun x0 x1 x5 H=>
  N2 x0 x1 (i64.wrap (x5+1)) H
def B4 (P:PT) (N2:Y k1):Y k0:=fun H=>
  P (bool false) H
def o5:=O 1864
def B5 (P:PT) (N2:Y k1):Y k1:=fun x0 x1 x5 H=>
  idxK x0 x5 1 (fun b1 o2=>ld1 H b1 o2 (fun v3=>idxK x1 x5 1 (fun b4 o5=>ld1 H b4 o5 (fun v6=>A 12 [v3,v6] H (fun v7 H8=>asB v7 (fun v9=>pif (!v9) (B4 P N2 H8) (B3 P N2 x0 x1 x5 H8)))))))
theorem q5 (P:PT) (N2:Y k1):QD Tryz.prog T0 27 o5 [(0,false),(1,false),(2,false),(3,false),(4,false),(5,false),(6,false),(7,false),(8,false),(9,false)] (cnd 26 (En 27 k0 (B4 P N2)) (En 27 k1 (B3 P N2))) k1 (B5 P N2):=fun _ _ _ _ _  => by kernel_rfl
def B6 (P:PT) (N2:Y k1):Y k1:=fun x0 x1 x5 H=>
  lenK x0 (fun n1=>pif (decide ((x5:Int)<(n1:Int))) (B5 P N2 x0 x1 x5 H) (B1 P H))
def L2 (P:PT):Y k1:=fun x0 x1 x5 H=>
  ∃ (I:Y k1) (μ:NTy k1 (AHeap→Nat)),I x0 x1 x5 H∧∀ y0 y1 y5 G,I y0 y1 y5 G→B6 P (fun z0 z1 z5 G'=>I z0 z1 z5 G'∧μ z0 z1 z5 G'<μ y0 y1 y5 G) y0 y1 y5 G
theorem l2 P:LQ k1 (L2 P) (B6 P):=fun ⟨_,_,_,_⟩ _ ⟨I,μ,h0,hI⟩=>⟨apT _ I,apT _ μ,h0,fun ⟨_,_,_,_⟩ _ h=>hI _ _ _ _  h⟩
abbrev k2:Sk:=[(0,.v),(1,.v)]
def B7 (P:PT):Y k2:=fun x0 x1 H=>
  L2 P x0 x1 0 H
def B8 (P:PT):Y k0:=fun H=>
  P (bool false) H
def B9 (P:PT):Y k2:=fun x0 x1 H=>
  lenK x0 (fun n1=>lenK x1 (fun n2=>pif (((n1:Int):Int) != (n2:Int)) (B8 P H) (B7 P x0 x1 H)))
def B10 (P:PT):Y k2:=fun x0 x1 H=>
  B9 P x0 x1 H
def code:Code:=(.seq (R 0 2) (.seq (.seq (R 1 12) (.cond (.tmp 10) (.seq (R 2 52) .ret) .skip)) (.seq (.seq (R 3 28) (.block 0 (.loop (.seq (.seq (R 4 464) (.cond (.tmp 14) .skip (.exit 0))) (.seq (.block 1 (.seq (.region 6 ⟨o5⟩ true) (.cond (.tmp 26) (.seq (R 7 7460) .ret) .skip))) (R 5 467)))))) (.seq (R 8 30) .ret))))
theorem body:Tryz.f9.body=some code:=by kernel_rfl
theorem main P:Z 27 k2 (B10 P) code (ret P):=
  (r_seq (b (E k2 (B9 P))) (r_seq (r_seq (b (cnd 10 (E k0 (B8 P)) (E k2 (B7 P)))) (r_cond rfl (r_seq (b (ret P)) r_ret) r_skip)) (r_seq (r_seq (b (E k1 (L2 P))) (r_block (rL (l2 P) (fun N2=>(r_seq (r_seq (b (cnd 14 (E k1 (B5 P N2)) (E k0 (B1 P)))) (r_cond rfl r_skip (r_exit (fun _ _ h=>h)))) (r_seq (r_block (r_seq (rD T0_ok mixed [(0,false),(1,false),(2,false),(3,false),(4,false),(5,false),(6,false),(7,false),(8,false),(9,false)] (by kernel_rfl) (q5 P N2)) (r_cond rfl (r_seq (b (ret P)) r_ret) r_skip))) (b (E k1 N2)))))))) (r_seq (b (ret P)) r_ret))))
theorem ac (P:PT) (x0 x1:Value) (H:AHeap) (h:B10 P x0 x1 H):A 9 [x0,x1] H P:=
  r_fn T0_ok (c:=code) (n:=27) Tryz.func9 body (by kernel_rfl) (main P) (En_mk (x0,x1,()) (by kernel_rfl) ⟨by kernel_rfl,by kernel_rfl,trivial⟩ h)

end F9
namespace F10
abbrev E:=En 17
def O (k:Nat):=ob Tryz.f10 (pth k)
abbrev R (i k:Nat):Code:=.region i ⟨O k⟩ false
def ret (P:PT):EP:=retE T0 17 Tryz.f10 P
abbrev k0:Sk:=[(1,.v),(2,.x)]
def o1:=O 14
def B1 (P:PT):Y k0:=fun x1 x2 H=>
  li H x2 0 (fun v1=>ld1 H x2 1 (fun v2=>A 46 [x1] H (fun v3 H4=>asI .u64 v3 (fun v5=>(AHeap.le H H4)∧(A 52 [(agg ⟨[(I v1),v2]⟩),(int .u64 v5)] H4 (fun v6 H7=>asB v6 (fun v8=>P (tuple ⟨[(bool v8),(I 0)]⟩) H7)))))))
theorem q1 (P:PT):QD Tryz.prog T0 17 o1 [(0,false),(1,false),(2,true),(3,false),(4,false),(5,false)] (ret P) k0 (B1 P):=fun _ _ _ _  => by kernel_rfl
abbrev k1:Sk:=[(6,J)]
def B2 (P:PT):Y k1:=fun x6 H=>
  P (tuple ⟨[(bool false),(I x6)]⟩) H
abbrev k2:Sk:=[(1,.v),(2,.x),(6,J)]
def B3 (P:PT):Y k2:=fun x1 x2 x6 H=>
  pif ((x6:Int) != 0) (B2 P x6 H) (B1 P x1 x2 H)
def B4 (P:PT):Y k0:=fun x1 x2 H=>
  li H x2 0 (fun v1=>ld1 H x2 1 (fun v2=>A 44 [(agg ⟨[(I v1),v2]⟩),x1] H (fun v3 H4=>asI .i64 v3 (fun v5=>B3 P x1 x2 v5 H4))))
abbrev k3:Sk:=[(0,.g [.i,.v]),(1,.v)]
def B5 (P:PT):Y k3:=fun x0a x0b x1 H=>
  newK H [(I x0a),x0b] 26 (fun b1 H2=>B4 P x1 b1 H2)
def code:Code:=(.seq (R 0 2) (.seq (.seq (R 1 12) (.seq (R 2 26) (.cond (.tmp 11) (.seq (R 3 108) .ret) .skip))) (.seq (.region 4 ⟨o1⟩ true) .ret)))
theorem body:Tryz.f10.body=some code:=by kernel_rfl
theorem main P:Z 17 k3 (B5 P) code (ret P):=
  (r_seq (b (E k0 (B4 P))) (r_seq (r_seq (b (E k2 (B3 P))) (r_seq (b (cnd 11 (E k1 (B2 P)) (E k0 (B1 P)))) (r_cond rfl (r_seq (b (ret P)) r_ret) r_skip))) (r_seq (rD T0_ok mixed [(0,false),(1,false),(2,true),(3,false),(4,false),(5,false)] (by kernel_rfl) (q1 P)) r_ret)))
theorem ac (P:PT) (x0a:Int) (x0b x1:Value) (H:AHeap) (h:B5 P x0a x0b x1 H):A 10 [(agg ⟨[(I x0a),x0b]⟩),x1] H P:=
  r_fn T0_ok (c:=code) (n:=17) Tryz.func10 body (by kernel_rfl) (main P) (En_mk (x0a,x0b,x1,()) (by kernel_rfl) ⟨by kernel_rfl,by kernel_rfl,trivial⟩ h)

end F10
namespace F11
abbrev E:=En 32
def O (k:Nat):=ob Tryz.f11 (pth k)
abbrev R (i k:Nat):Code:=.region i ⟨O k⟩ false
def ret (P:PT):EP:=retE T0 32 Tryz.f11 P
abbrev k0:Sk:=[(1,.v),(2,.v)]
def B1 (P:PT):Y k0:=fun x1 x2 H=>
  A 46 [x1] H (fun v1 H2=>asI .u64 v1 (fun v3=>A 46 [x2] H2 (fun v4 H5=>asI .u64 v4 (fun v6=>A 56 [(int .u64 (u64.wrap (BitVec.ofInt 64 v3 ^^^ BitVec.ofInt 64 v6).toNat))] H5 (fun v7 H8=>P (tuple ⟨[v7,(I 0)]⟩) H8)))))
abbrev k1:Sk:=[(8,J)]
def B2 (P:PT):Y k1:=fun x8 H=>
  P (tuple ⟨[(slice none 0 0),(I x8)]⟩) H
abbrev k2:Sk:=[(1,.v),(2,.v),(8,J)]
def B3 (P:PT):Y k2:=fun x1 x2 x8 H=>
  pif ((x8:Int) != 0) (B2 P x8 H) (B1 P x1 x2 H)
abbrev k3:Sk:=[(1,.v),(2,.v),(3,.x)]
def o4:=O 12
def B4 (P:PT):Y k3:=fun x1 x2 x3 H=>
  li H x3 0 (fun v1=>ld1 H x3 1 (fun v2=>ld1 H x3 1 (fun v3=>A 55 [v3] H (fun v4 H5=>asI .i64 v4 (fun v6=>(AHeap.le H H5)∧(A 54 [x1,(I v6)] H5 (fun v7 H8=>asB v7 (fun v9=>(AHeap.le H5 H8)∧(pif v9 (ld1 H8 x3 1 (fun v10=>A 55 [v10] H8 (fun v11 H12=>asI .i64 v11 (fun v13=>(AHeap.le H8 H12)∧(A 54 [x2,(I v13)] H12 (fun v14 H15=>asB v14 (fun v16=>(AHeap.le H12 H15)∧(A 53 [(agg ⟨[(I v1),v2]⟩),(bool v16)] H15 (fun v17 H18=>asI .i64 v17 (fun v19=>B3 P x1 x2 v19 H18)))))))))) (A 53 [(agg ⟨[(I v1),v2]⟩),(bool false)] H8 (fun v20 H21=>asI .i64 v20 (fun v22=>B3 P x1 x2 v22 H21))))))))))))
theorem q4 (P:PT):QD Tryz.prog T0 32 o4 [(0,false),(1,false),(2,false),(3,false),(4,true),(5,true),(6,false),(7,false),(8,false),(9,false),(10,true),(11,true),(12,false),(13,false),(14,false)] (En 32 k2 (B3 P)) k3 (B4 P):=fun _ _ _ _ _  => by kernel_rfl
abbrev k4:Sk:=[(0,.g [.i,.v]),(1,.v),(2,.v)]
def B5 (P:PT):Y k4:=fun x0a x0b x1 x2 H=>
  newK H [(I x0a),x0b] 26 (fun b1 H2=>B4 P x1 x2 b1 H2)
def code:Code:=(.seq (R 0 2) (.seq (.seq (.region 1 ⟨o4⟩ true) (.seq (R 2 26) (.cond (.tmp 24) (.seq (R 3 108) .ret) .skip))) (.seq (R 4 14) .ret)))
theorem body:Tryz.f11.body=some code:=by kernel_rfl
theorem main P:Z 32 k4 (B5 P) code (ret P):=
  (r_seq (b (E k3 (B4 P))) (r_seq (r_seq (rD T0_ok mixed [(0,false),(1,false),(2,false),(3,false),(4,true),(5,true),(6,false),(7,false),(8,false),(9,false),(10,true),(11,true),(12,false),(13,false),(14,false)] (by kernel_rfl) (q4 P)) (r_seq (b (cnd 24 (E k1 (B2 P)) (E k0 (B1 P)))) (r_cond rfl (r_seq (b (ret P)) r_ret) r_skip))) (r_seq (b (ret P)) r_ret)))
theorem ac (P:PT) (x0a:Int) (x0b x1 x2:Value) (H:AHeap) (h:B5 P x0a x0b x1 x2 H):A 11 [(agg ⟨[(I x0a),x0b]⟩),x1,x2] H P:=
  r_fn T0_ok (c:=code) (n:=32) Tryz.func11 body (by kernel_rfl) (main P) (En_mk (x0a,x0b,x1,x2,()) (by kernel_rfl) ⟨by kernel_rfl,by kernel_rfl,by kernel_rfl,trivial⟩ h)

end F11
namespace F12
abbrev E:=En 26
def O (k:Nat):=ob Tryz.f12 (pth k)
abbrev R (i k:Nat):Code:=.region i ⟨O k⟩ false
def ret (P:PT):EP:=retE T0 26 Tryz.f12 P
abbrev k0:Sk:=[]
def B1 (P:PT):Y k0:=fun H=>
  P (bool true) H
abbrev k1:Sk:=[(0,.v),(1,.v),(5,J)]
def B3 (P:PT) (N2:Y k1):Y k1:=fun x0 x1 x5 H=>
  N2 x0 x1 (i64.wrap (x5+1)) H
def B4 (P:PT) (N2:Y k1):Y k0:=fun H=>
  P (bool false) H
def o5:=O 1864
def B5 (P:PT) (N2:Y k1):Y k1:=fun x0 x1 x5 H=>
  idxK x0 x5 1 (fun b1 o2=>li H b1 o2 (fun v3=>idxK x1 x5 1 (fun b4 o5=>li H b4 o5 (fun v6=>pif ((v3:Int) != v6) (B4 P N2 H) (B3 P N2 x0 x1 x5 H)))))
theorem q5 (P:PT) (N2:Y k1):QD Tryz.prog T0 26 o5 [(0,false),(1,false),(2,false),(3,false),(4,false),(5,false),(6,false),(7,false),(8,false)] (cnd 25 (En 26 k0 (B4 P N2)) (En 26 k1 (B3 P N2))) k1 (B5 P N2):=fun _ _ _ _ _  => by kernel_rfl
def B6 (P:PT) (N2:Y k1):Y k1:=fun x0 x1 x5 H=>
  lenK x0 (fun n1=>pif (decide ((x5:Int)<(n1:Int))) (B5 P N2 x0 x1 x5 H) (B1 P H))
def L2 (P:PT):Y k1:=fun x0 x1 x5 H=>
  ∃ (I:Y k1) (μ:NTy k1 (AHeap→Nat)),I x0 x1 x5 H∧∀ y0 y1 y5 G,I y0 y1 y5 G→B6 P (fun z0 z1 z5 G'=>I z0 z1 z5 G'∧μ z0 z1 z5 G'<μ y0 y1 y5 G) y0 y1 y5 G
theorem l2 P:LQ k1 (L2 P) (B6 P):=fun ⟨_,_,_,_⟩ _ ⟨I,μ,h0,hI⟩=>⟨apT _ I,apT _ μ,h0,fun ⟨_,_,_,_⟩ _ h=>hI _ _ _ _  h⟩
abbrev k2:Sk:=[(0,.v),(1,.v)]
def B7 (P:PT):Y k2:=fun x0 x1 H=>
  L2 P x0 x1 0 H
def B8 (P:PT):Y k0:=fun H=>
  P (bool false) H
def B9 (P:PT):Y k2:=fun x0 x1 H=>
  lenK x0 (fun n1=>lenK x1 (fun n2=>pif (((n1:Int):Int) != (n2:Int)) (B8 P H) (B7 P x0 x1 H)))
def B10 (P:PT):Y k2:=fun x0 x1 H=>
  B9 P x0 x1 H
def code:Code:=(.seq (R 0 2) (.seq (.seq (R 1 12) (.cond (.tmp 10) (.seq (R 2 52) .ret) .skip)) (.seq (.seq (R 3 28) (.block 0 (.loop (.seq (.seq (R 4 464) (.cond (.tmp 14) .skip (.exit 0))) (.seq (.block 1 (.seq (.region 6 ⟨o5⟩ true) (.cond (.tmp 25) (.seq (R 7 7460) .ret) .skip))) (R 5 467)))))) (.seq (R 8 30) .ret))))
theorem body:Tryz.f12.body=some code:=by kernel_rfl
theorem main P:Z 26 k2 (B10 P) code (ret P):=
  (r_seq (b (E k2 (B9 P))) (r_seq (r_seq (b (cnd 10 (E k0 (B8 P)) (E k2 (B7 P)))) (r_cond rfl (r_seq (b (ret P)) r_ret) r_skip)) (r_seq (r_seq (b (E k1 (L2 P))) (r_block (rL (l2 P) (fun N2=>(r_seq (r_seq (b (cnd 14 (E k1 (B5 P N2)) (E k0 (B1 P)))) (r_cond rfl r_skip (r_exit (fun _ _ h=>h)))) (r_seq (r_block (r_seq (rD T0_ok mixed [(0,false),(1,false),(2,false),(3,false),(4,false),(5,false),(6,false),(7,false),(8,false)] (by kernel_rfl) (q5 P N2)) (r_cond rfl (r_seq (b (ret P)) r_ret) r_skip))) (b (E k1 N2)))))))) (r_seq (b (ret P)) r_ret))))
theorem ac (P:PT) (x0 x1:Value) (H:AHeap) (h:B10 P x0 x1 H):A 12 [x0,x1] H P:=
  r_fn T0_ok (c:=code) (n:=26) Tryz.func12 body (by kernel_rfl) (main P) (En_mk (x0,x1,()) (by kernel_rfl) ⟨by kernel_rfl,by kernel_rfl,trivial⟩ h)

end F12
namespace F13
abbrev E:=En 32
def O (k:Nat):=ob Tryz.f13 (pth k)
abbrev R (i k:Nat):Code:=.region i ⟨O k⟩ false
def ret (P:PT):EP:=retE T0 32 Tryz.f13 P
abbrev k0:Sk:=[(2,.x),(5,.v),(6,.x),(7,.v),(8,.v)]
def B1 (P:PT):Y k0:=fun x2 x5 x6 x7 x8 H=>
  li H x6 0 (fun v1=>ld1 H x6 1 (fun v2=>A 62 [x5,(agg ⟨[(I v1),v2]⟩)] H (fun v3 H4=>agg2 v3 (fun v5 v6=>asI .i64 v5 (fun v7=>stK H4 x2 0 [(I v7),v6] (fun H9=>li H9 x2 0 (fun v10=>ld1 H9 x2 1 (fun v11=>P (tuple ⟨[(agg ⟨[(I v10),v11]⟩),x7,x8]⟩) H9))))))))
abbrev k1:Sk:=[(2,.x),(5,.v),(6,.x),(7,.v)]
def B2 (P:PT):Y k1:=fun x2 x5 x6 x7 H=>
  ld1 H x6 1 (fun v1=>lenK v1 (fun n2=>A 61 [x5,(I (n2:Int)),(I 4)] H (fun v3 H4=>B1 P x2 x5 x6 x7 v3 H4)))
def B3 (P:PT):Y k0:=fun x2 x5 x6 x7 x8 H=>
  A 60 [x5,(I 8)] H (fun v1 H2=>asI .i64 v1 (fun v3=>pif ((v3:Int)==0) (B2 P x2 x5 x6 x7 H2) (B1 P x2 x5 x6 x7 x8 H2)))
def B4 (P:PT):Y k1:=fun x2 x5 x6 x7 H=>
  li H x6 0 (fun v1=>ld1 H x6 1 (fun v2=>A 59 [x5,(agg ⟨[(I v1),v2]⟩)] H (fun v3 H4=>B3 P x2 x5 x6 x7 v3 H4)))
abbrev k2:Sk:=[(2,.x),(5,.v),(6,.x)]
def B5 (P:PT):Y k2:=fun x2 x5 x6 H=>
  li H x6 0 (fun v1=>ld1 H x6 1 (fun v2=>A 59 [x5,(agg ⟨[(I v1),v2]⟩)] H (fun v3 H4=>B4 P x2 x5 x6 v3 H4)))
abbrev k3:Sk:=[(2,.x),(5,.v)]
def B6 (P:PT):Y k3:=fun x2 x5 H=>
  A 58 [x5] H (fun v1 H2=>agg2 v1 (fun v3 v4=>asI .i64 v3 (fun v5=>newK H2 [(I 0),(slice none 0 0)] 26 (fun b7 H8=>stK H8 b7 0 [(I v5),v4] (fun H9=>B5 P x2 x5 b7 H9)))))
abbrev k4:Sk:=[(0,.v),(2,.x)]
def B7 (P:PT):Y k4:=fun x0 x2 H=>
  A 57 [x0] H (fun v1 H2=>B6 P x2 v1 H2)
abbrev k5:Sk:=[(0,.v)]
def B8 (P:PT):Y k5:=fun x0 H=>
  newK H [(I 0),(slice none 0 0)] 26 (fun b1 H2=>B7 P x0 b1 H2)
def code:Code:=(.seq (R 0 2) (.seq (R 1 6) (.seq (R 2 14) (.seq (R 3 30) (.seq (R 4 62) (.seq (.seq (R 5 252) (.cond (.tmp 21) (R 6 506) .skip)) (.seq (R 7 254) .ret)))))))
theorem body:Tryz.f13.body=some code:=by kernel_rfl
theorem main P:Z 32 k5 (B8 P) code (ret P):=
  (r_seq (b (E k4 (B7 P))) (r_seq (b (E k3 (B6 P))) (r_seq (b (E k2 (B5 P))) (r_seq (b (E k1 (B4 P))) (r_seq (b (E k0 (B3 P))) (r_seq (r_seq (b (cnd 21 (E k1 (B2 P)) (E k0 (B1 P)))) (r_cond rfl (b (E k0 (B1 P))) r_skip)) (r_seq (b (ret P)) r_ret)))))))
theorem ac (P:PT) (x0:Value) (H:AHeap) (h:B8 P x0 H):A 13 [x0] H P:=
  r_fn T0_ok (c:=code) (n:=32) Tryz.func13 body (by kernel_rfl) (main P) (En_mk (x0,()) (by kernel_rfl) ⟨by kernel_rfl,trivial⟩ h)

end F13
namespace F14
abbrev E:=En 44
def O (k:Nat):=ob Tryz.f14 (pth k)
abbrev R (i k:Nat):Code:=.region i ⟨O k⟩ false
def ret (P:PT):EP:=retE T0 44 Tryz.f14 P
abbrev k0:Sk:=[(10,.v)]
def B1 (P:PT):Y k0:=fun x10 H=>
  P (tuple ⟨[x10,(I 0)]⟩) H
abbrev k1:Sk:=[(1,.v),(2,.v),(3,.x),(10,.v),(11,J)]
def B3 (P:PT) (N2:Y k1):Y k1:=fun x1 x2 x3 x10 x11 H=>
  N2 x1 x2 x3 x10 (i64.wrap (x11+1)) H
def B4 (P:PT) (N2:Y k1):Y k1:=fun x1 x2 x3 x10 x11 H=>
  newK H [(I x11)] 2 (fun b1 H2=>apK T0 2 H2 x10 (slice (some ⟨b1,0,none⟩) 1 (1+1)) (fun v3 H4=>B3 P N2 x1 x2 x3 v3 x11 H4))
def B5 (P:PT) (N2:Y k1):Y k1:=fun x1 x2 x3 x10 x11 H=>
  A 63 [x1,(I x11)] H (fun v1 H2=>asB v1 (fun v3=>A 63 [x2,(I x11)] H2 (fun v4 H5=>asB v4 (fun v6=>pif (!(v3==v6)) (B4 P N2 x1 x2 x3 x10 x11 H5) (B3 P N2 x1 x2 x3 x10 x11 H5)))))
def B6 (P:PT) (N2:Y k1):Y k1:=fun x1 x2 x3 x10 x11 H=>
  ld1 H x3 1 (fun v1=>lenK v1 (fun n2=>pif (decide ((x11:Int)<(n2:Int))) (B5 P N2 x1 x2 x3 x10 x11 H) (B1 P x10 H)))
def L2 (P:PT):Y k1:=fun x1 x2 x3 x10 x11 H=>
  ∃ (I:Y k1) (μ:NTy k1 (AHeap→Nat)),I x1 x2 x3 x10 x11 H∧∀ y1 y2 y3 y10 y11 G,I y1 y2 y3 y10 y11 G→B6 P (fun z1 z2 z3 z10 z11 G'=>I z1 z2 z3 z10 z11 G'∧μ z1 z2 z3 z10 z11 G'<μ y1 y2 y3 y10 y11 G) y1 y2 y3 y10 y11 G
theorem l2 P:LQ k1 (L2 P) (B6 P):=fun ⟨_,_,_,_,_,_⟩ _ ⟨I,μ,h0,hI⟩=>⟨apT _ I,apT _ μ,h0,fun ⟨_,_,_,_,_,_⟩ _ h=>hI _ _ _ _ _ _  h⟩
abbrev k2:Sk:=[(1,.v),(2,.v),(3,.x),(10,.v)]
def B7 (P:PT):Y k2:=fun x1 x2 x3 x10 H=>
  L2 P x1 x2 x3 x10 0 H
abbrev k3:Sk:=[(1,.v),(2,.v),(3,.x)]
def B8 (P:PT):Y k3:=fun x1 x2 x3 H=>
  newK H [] 2 (fun b1 H2=>B7 P x1 x2 x3 (slice (some ⟨b1,0,none⟩) 0 (0+1)) H2)
abbrev k4:Sk:=[(9,J)]
def B9 (P:PT):Y k4:=fun x9 H=>
  P (tuple ⟨[(slice none 0 0),(I x9)]⟩) H
abbrev k5:Sk:=[(1,.v),(2,.v),(3,.x),(9,J)]
def B10 (P:PT):Y k5:=fun x1 x2 x3 x9 H=>
  pif ((x9:Int) != 0) (B9 P x9 H) (B8 P x1 x2 x3 H)
def B11 (P:PT):Y k3:=fun x1 x2 x3 H=>
  li H x3 0 (fun v1=>ld1 H x3 1 (fun v2=>A 49 [(agg ⟨[(I v1),v2]⟩),x2] H (fun v3 H4=>asI .i64 v3 (fun v5=>B10 P x1 x2 x3 v5 H4))))
abbrev k6:Sk:=[(8,J)]
def B12 (P:PT):Y k6:=fun x8 H=>
  P (tuple ⟨[(slice none 0 0),(I x8)]⟩) H
abbrev k7:Sk:=[(1,.v),(2,.v),(3,.x),(8,J)]
def B13 (P:PT):Y k7:=fun x1 x2 x3 x8 H=>
  pif ((x8:Int) != 0) (B12 P x8 H) (B11 P x1 x2 x3 H)
def B14 (P:PT):Y k3:=fun x1 x2 x3 H=>
  li H x3 0 (fun v1=>ld1 H x3 1 (fun v2=>A 49 [(agg ⟨[(I v1),v2]⟩),x1] H (fun v3 H4=>asI .i64 v3 (fun v5=>B13 P x1 x2 x3 v5 H4))))
abbrev k8:Sk:=[(0,.g [.i,.v]),(1,.v),(2,.v)]
def B15 (P:PT):Y k8:=fun x0a x0b x1 x2 H=>
  newK H [(I x0a),x0b] 26 (fun b1 H2=>B14 P x1 x2 b1 H2)
def code:Code:=(.seq (R 0 2) (.seq (.seq (R 1 12) (.seq (R 2 26) (.cond (.tmp 16) (.seq (R 3 108) .ret) .skip))) (.seq (.seq (R 4 28) (.seq (R 5 58) (.cond (.tmp 22) (.seq (R 6 236) .ret) .skip))) (.seq (R 7 30) (.seq (.seq (R 8 124) (.block 0 (.loop (.seq (.seq (R 9 2000) (.cond (.tmp 29) .skip (.exit 0))) (.seq (.block 1 (.seq (R 11 8008) (.cond (.tmp 38) (R 12 16018) .skip))) (R 10 2003)))))) (.seq (R 13 126) .ret))))))
theorem body:Tryz.f14.body=some code:=by kernel_rfl
theorem main P:Z 44 k8 (B15 P) code (ret P):=
  (r_seq (b (E k3 (B14 P))) (r_seq (r_seq (b (E k7 (B13 P))) (r_seq (b (cnd 16 (E k6 (B12 P)) (E k3 (B11 P)))) (r_cond rfl (r_seq (b (ret P)) r_ret) r_skip))) (r_seq (r_seq (b (E k5 (B10 P))) (r_seq (b (cnd 22 (E k4 (B9 P)) (E k3 (B8 P)))) (r_cond rfl (r_seq (b (ret P)) r_ret) r_skip))) (r_seq (b (E k2 (B7 P))) (r_seq (r_seq (b (E k1 (L2 P))) (r_block (rL (l2 P) (fun N2=>(r_seq (r_seq (b (cnd 29 (E k1 (B5 P N2)) (E k0 (B1 P)))) (r_cond rfl r_skip (r_exit (fun _ _ h=>h)))) (r_seq (r_block (r_seq (b (cnd 38 (E k1 (B4 P N2)) (E k1 (B3 P N2)))) (r_cond rfl (b (E k1 (B3 P N2))) r_skip))) (b (E k1 N2)))))))) (r_seq (b (ret P)) r_ret))))))
theorem ac (P:PT) (x0a:Int) (x0b x1 x2:Value) (H:AHeap) (h:B15 P x0a x0b x1 x2 H):A 14 [(agg ⟨[(I x0a),x0b]⟩),x1,x2] H P:=
  r_fn T0_ok (c:=code) (n:=44) Tryz.func14 body (by kernel_rfl) (main P) (En_mk (x0a,x0b,x1,x2,()) (by kernel_rfl) ⟨by kernel_rfl,by kernel_rfl,by kernel_rfl,trivial⟩ h)

end F14
namespace F15
abbrev E:=En 17
def O (k:Nat):=ob Tryz.f15 (pth k)
abbrev R (i k:Nat):Code:=.region i ⟨O k⟩ false
def ret (P:PT):EP:=retE T0 17 Tryz.f15 P
abbrev k0:Sk:=[(1,.v),(2,.x)]
def o1:=O 14
def B1 (P:PT):Y k0:=fun x1 x2 H=>
  li H x2 0 (fun v1=>ld1 H x2 1 (fun v2=>A 46 [x1] H (fun v3 H4=>asI .u64 v3 (fun v5=>(AHeap.le H H4)∧(A 45 [(agg ⟨[(I v1),v2]⟩),(int .u64 v5)] H4 (fun v6 H7=>asB v6 (fun v8=>P (tuple ⟨[(bool v8),(I 0)]⟩) H7)))))))
theorem q1 (P:PT):QD Tryz.prog T0 17 o1 [(0,false),(1,false),(2,true),(3,false),(4,false),(5,false)] (ret P) k0 (B1 P):=fun _ _ _ _  => by kernel_rfl
abbrev k1:Sk:=[(6,J)]
def B2 (P:PT):Y k1:=fun x6 H=>
  P (tuple ⟨[(bool false),(I x6)]⟩) H
abbrev k2:Sk:=[(1,.v),(2,.x),(6,J)]
def B3 (P:PT):Y k2:=fun x1 x2 x6 H=>
  pif ((x6:Int) != 0) (B2 P x6 H) (B1 P x1 x2 H)
def B4 (P:PT):Y k0:=fun x1 x2 H=>
  li H x2 0 (fun v1=>ld1 H x2 1 (fun v2=>A 44 [(agg ⟨[(I v1),v2]⟩),x1] H (fun v3 H4=>asI .i64 v3 (fun v5=>B3 P x1 x2 v5 H4))))
abbrev k3:Sk:=[(0,.g [.i,.v]),(1,.v)]
def B5 (P:PT):Y k3:=fun x0a x0b x1 H=>
  newK H [(I x0a),x0b] 26 (fun b1 H2=>B4 P x1 b1 H2)
def code:Code:=(.seq (R 0 2) (.seq (.seq (R 1 12) (.seq (R 2 26) (.cond (.tmp 11) (.seq (R 3 108) .ret) .skip))) (.seq (.region 4 ⟨o1⟩ true) .ret)))
theorem body:Tryz.f15.body=some code:=by kernel_rfl
theorem main P:Z 17 k3 (B5 P) code (ret P):=
  (r_seq (b (E k0 (B4 P))) (r_seq (r_seq (b (E k2 (B3 P))) (r_seq (b (cnd 11 (E k1 (B2 P)) (E k0 (B1 P)))) (r_cond rfl (r_seq (b (ret P)) r_ret) r_skip))) (r_seq (rD T0_ok mixed [(0,false),(1,false),(2,true),(3,false),(4,false),(5,false)] (by kernel_rfl) (q1 P)) r_ret)))
theorem ac (P:PT) (x0a:Int) (x0b x1:Value) (H:AHeap) (h:B5 P x0a x0b x1 H):A 15 [(agg ⟨[(I x0a),x0b]⟩),x1] H P:=
  r_fn T0_ok (c:=code) (n:=17) Tryz.func15 body (by kernel_rfl) (main P) (En_mk (x0a,x0b,x1,()) (by kernel_rfl) ⟨by kernel_rfl,by kernel_rfl,trivial⟩ h)

end F15
namespace F16
abbrev E:=En 15
def O (k:Nat):=ob Tryz.f16 (pth k)
abbrev R (i k:Nat):Code:=.region i ⟨O k⟩ false
def ret (P:PT):EP:=retE T0 15 Tryz.f16 P
abbrev k0:Sk:=[(2,.x),(3,.v)]
def B1 (P:PT):Y k0:=fun x2 x3 H=>
  A 65 [x3] H (fun v1 H2=>agg2 v1 (fun v3 v4=>asI .i64 v3 (fun v5=>A 62 [x3,(agg ⟨[(I v5),v4]⟩)] H2 (fun v7 H8=>agg2 v7 (fun v9 v10=>asI .i64 v9 (fun v11=>stK H8 x2 0 [(I v11),v10] (fun H13=>li H13 x2 0 (fun v14=>ld1 H13 x2 1 (fun v15=>P (agg ⟨[(I v14),v15]⟩) H13)))))))))
def B2 (P:PT):Y k0:=fun x2 x3 H=>
  A 64 [x3] H (fun v1 H2=>agg2 v1 (fun v3 v4=>asI .i64 v3 (fun v5=>stK H2 x2 0 [(I v5),v4] (fun H7=>li H7 x2 0 (fun v8=>ld1 H7 x2 1 (fun v9=>P (agg ⟨[(I v8),v9]⟩) H7))))))
def B3 (P:PT):Y k0:=fun x2 x3 H=>
  A 60 [x3,(I 20)] H (fun v1 H2=>asI .i64 v1 (fun v3=>pif ((v3:Int)==0) (B2 P x2 x3 H2) (B1 P x2 x3 H2)))
abbrev k1:Sk:=[(0,.v),(2,.x)]
def B4 (P:PT):Y k1:=fun x0 x2 H=>
  A 57 [x0] H (fun v1 H2=>B3 P x2 v1 H2)
abbrev k2:Sk:=[(0,.v)]
def B5 (P:PT):Y k2:=fun x0 H=>
  newK H [(I 0),(slice none 0 0)] 26 (fun b1 H2=>B4 P x0 b1 H2)
def code:Code:=(.seq (R 0 2) (.seq (R 1 6) (.seq (.seq (R 2 28) (.cond (.tmp 8) (.seq (R 3 116) .ret) .skip)) (.seq (R 4 30) .ret))))
theorem body:Tryz.f16.body=some code:=by kernel_rfl
theorem main P:Z 15 k2 (B5 P) code (ret P):=
  (r_seq (b (E k1 (B4 P))) (r_seq (b (E k0 (B3 P))) (r_seq (r_seq (b (cnd 8 (E k0 (B2 P)) (E k0 (B1 P)))) (r_cond rfl (r_seq (b (ret P)) r_ret) r_skip)) (r_seq (b (ret P)) r_ret))))
theorem ac (P:PT) (x0:Value) (H:AHeap) (h:B5 P x0 H):A 16 [x0] H P:=
  r_fn T0_ok (c:=code) (n:=15) Tryz.func16 body (by kernel_rfl) (main P) (En_mk (x0,()) (by kernel_rfl) ⟨by kernel_rfl,trivial⟩ h)

end F16
namespace F17
abbrev E:=En 48
def O (k:Nat):=ob Tryz.f17 (pth k)
abbrev R (i k:Nat):Code:=.region i ⟨O k⟩ false
def ret (P:PT):EP:=retE T0 48 Tryz.f17 P
abbrev k0:Sk:=[(5,.v)]
def B1 (P:PT):Y k0:=fun x5 H=>
  A 47 [x5] H (fun v1 H2=>P (tuple ⟨[v1,(I 0)]⟩) H2)
def o2:=O 254
def B2 (P:PT):Y k0:=fun x5 H=>
  A 70 [x5,(func (.func 71) ⟨[]⟩ ⟨[]⟩)] H (fun v1 H2=>asTup v1 (fun l3=>B1 P x5 H2))
abbrev k1:Sk:=[(1,.x),(5,.v)]
def B3 (P:PT):Y k1:=fun x1 x5 H=>
  A 68 [x5,(func (.func 69) ⟨[]⟩ ⟨[(pointer (some ⟨x1,0,none⟩))]⟩)] H (fun v1 H2=>B2 P v1 H2)
abbrev k2:Sk:=[(1,.x),(5,.v),(20,.v),(21,J),(22,J)]
def B5 (P:PT) (N4:Y k2):Y k2:=fun x1 x5 x20 x21 x22 H=>
  N4 x1 x5 x20 x21 (i64.wrap (x22+1)) H
abbrev k3:Sk:=[(1,.x),(5,.v),(7,.i .u64),(20,.v),(21,J),(22,J),(27,.v),(28,J),(29,J)]
def B7 (P:PT) (N4:Y k2) (N6:Y k3):Y k3:=fun x1 x5 x7 x20 x21 x22 x27 x28 x29 H=>
  N6 x1 x5 x7 x20 x21 x22 x27 x28 (i64.wrap (x29+1)) H
abbrev k4:Sk:=[(1,.x),(5,.v),(7,.i .u64),(9,.i .u64),(20,.v),(21,J),(22,J),(27,.v),(28,J),(29,J)]
def B8 (P:PT) (N4:Y k2) (N6:Y k3):Y k4:=fun x1 x5 x7 x9 x20 x21 x22 x27 x28 x29 H=>
  newK H [(int .u64 (u64.wrap (BitVec.ofInt 64 x9 ^^^ BitVec.ofInt 64 x7).toNat))] 55 (fun b1 H2=>apK T0 55 H2 x5 (slice (some ⟨b1,0,none⟩) 1 (1+1)) (fun v3 H4=>B7 P N4 N6 x1 v3 x7 x20 x21 x22 x27 x28 x29 H4))
def B9 (P:PT) (N4:Y k2) (N6:Y k3):Y k3:=fun x1 x5 x7 x20 x21 x22 x27 x28 x29 H=>
  idxK x27 x29 1 (fun b1 o2=>ldI .u64 H b1 o2 (fun v3=>B8 P N4 N6 x1 x5 x7 v3 x20 x21 x22 x27 x28 x29 H))
def B10 (P:PT) (N4:Y k2) (N6:Y k3):Y k3:=fun x1 x5 x7 x20 x21 x22 x27 x28 x29 H=>
  pif (decide ((x29:Int)<x28)) (B9 P N4 N6 x1 x5 x7 x20 x21 x22 x27 x28 x29 H) (B5 P N4 x1 x5 x20 x21 x22 H)
def L6 (P:PT) (N4:Y k2):Y k3:=fun x1 x5 x7 x20 x21 x22 x27 x28 x29 H=>
  ∃ (I:Y k3) (μ:NTy k3 (AHeap→Nat)),I x1 x5 x7 x20 x21 x22 x27 x28 x29 H∧∀ y1 y5 y7 y20 y21 y22 y27 y28 y29 G,I y1 y5 y7 y20 y21 y22 y27 y28 y29 G→B10 P N4 (fun z1 z5 z7 z20 z21 z22 z27 z28 z29 G'=>I z1 z5 z7 z20 z21 z22 z27 z28 z29 G'∧μ z1 z5 z7 z20 z21 z22 z27 z28 z29 G'<μ y1 y5 y7 y20 y21 y22 y27 y28 y29 G) y1 y5 y7 y20 y21 y22 y27 y28 y29 G
theorem l6 P N4:LQ k3 (L6 P N4) (B10 P N4):=fun ⟨_,_,_,_,_,_,_,_,_,_⟩ _ ⟨I,μ,h0,hI⟩=>⟨apT _ I,apT _ μ,h0,fun ⟨_,_,_,_,_,_,_,_,_,_⟩ _ h=>hI _ _ _ _ _ _ _ _ _ _  h⟩
abbrev k5:Sk:=[(1,.x),(5,.v),(7,.i .u64),(20,.v),(21,J),(22,J)]
def B11 (P:PT) (N4:Y k2):Y k5:=fun x1 x5 x7 x20 x21 x22 H=>
  A 67 [x5] H (fun v1 H2=>lenK v1 (fun n4=>L6 P N4 x1 x5 x7 x20 x21 x22 v1 (n4:Int) 0 H2))
def B12 (P:PT) (N4:Y k2):Y k2:=fun x1 x5 x20 x21 x22 H=>
  idxK x20 x22 1 (fun b1 o2=>ldI .u64 H b1 o2 (fun v3=>B11 P N4 x1 x5 v3 x20 x21 x22 H))
def B13 (P:PT) (N4:Y k2):Y k2:=fun x1 x5 x20 x21 x22 H=>
  pif (decide ((x22:Int)<x21)) (B12 P N4 x1 x5 x20 x21 x22 H) (B3 P x1 x5 H)
def L4 (P:PT):Y k2:=fun x1 x5 x20 x21 x22 H=>
  ∃ (I:Y k2) (μ:NTy k2 (AHeap→Nat)),I x1 x5 x20 x21 x22 H∧∀ y1 y5 y20 y21 y22 G,I y1 y5 y20 y21 y22 G→B13 P (fun z1 z5 z20 z21 z22 G'=>I z1 z5 z20 z21 z22 G'∧μ z1 z5 z20 z21 z22 G'<μ y1 y5 y20 y21 y22 G) y1 y5 y20 y21 y22 G
theorem l4 P:LQ k2 (L4 P) (B13 P):=fun ⟨_,_,_,_,_,_⟩ _ ⟨I,μ,h0,hI⟩=>⟨apT _ I,apT _ μ,h0,fun ⟨_,_,_,_,_,_⟩ _ h=>hI _ _ _ _ _ _  h⟩
def B14 (P:PT):Y k1:=fun x1 x5 H=>
  li H x1 0 (fun v1=>ld1 H x1 1 (fun v2=>A 66 [(agg ⟨[(I v1),v2]⟩)] H (fun v3 H4=>lenK v3 (fun n6=>L4 P x1 x5 v3 (n6:Int) 0 H4))))
abbrev k6:Sk:=[(1,.x)]
def B15 (P:PT):Y k6:=fun x1 H=>
  newK H [(int .u64 0)] 55 (fun b1 H2=>B14 P x1 (slice (some ⟨b1,0,none⟩) 1 (1+1)) H2)
abbrev k7:Sk:=[]
def B16 (P:PT):Y k7:=fun H=>
  P (tuple ⟨[(slice none 0 0),(I 3)]⟩) H
def B17 (P:PT):Y k6:=fun x1 H=>
  li H x1 0 (fun v1=>pif (decide ((v1:Int)>12)) (B16 P H) (B15 P x1 H))
abbrev k8:Sk:=[(4,J)]
def B18 (P:PT):Y k8:=fun x4 H=>
  P (tuple ⟨[(slice none 0 0),(I x4)]⟩) H
abbrev k9:Sk:=[(1,.x),(4,J)]
def B19 (P:PT):Y k9:=fun x1 x4 H=>
  pif ((x4:Int) != 0) (B18 P x4 H) (B17 P x1 H)
def B20 (P:PT):Y k6:=fun x1 H=>
  li H x1 0 (fun v1=>ld1 H x1 1 (fun v2=>A 53 [(agg ⟨[(I v1),v2]⟩),(bool true)] H (fun v3 H4=>asI .i64 v3 (fun v5=>B19 P x1 v5 H4))))
abbrev k10:Sk:=[(0,.g [.i,.v])]
def B21 (P:PT):Y k10:=fun x0a x0b H=>
  newK H [(I x0a),x0b] 26 (fun b1 H2=>B20 P b1 H2)
def code:Code:=(.seq (R 0 2) (.seq (.seq (R 1 12) (.seq (R 2 26) (.cond (.tmp 13) (.seq (R 3 108) .ret) .skip))) (.seq (.seq (R 4 28) (.cond (.tmp 17) (.seq (R 5 116) .ret) .skip)) (.seq (R 6 30) (.seq (.seq (R 7 124) (.block 0 (.loop (.seq (R 8 1000) (.seq (.cond (.tmp 23) .skip (.exit 0)) (.seq (.block 1 (.seq (R 9 16024) (.seq (R 10 32050) (.block 2 (.loop (.seq (R 11 256408) (.seq (.cond (.tmp 30) .skip (.exit 2)) (.seq (.block 3 (.seq (R 12 4102552) (R 13 4102553))) (R 14 1025639))))))))) (R 15 4007))))))) (.seq (R 16 126) (.seq (R 17 254) (.seq (R 18 510) .ret))))))))
theorem body:Tryz.f17.body=some code:=by kernel_rfl
theorem main P:Z 48 k10 (B21 P) code (ret P):=
  (r_seq (b (E k6 (B20 P))) (r_seq (r_seq (b (E k9 (B19 P))) (r_seq (b (cnd 13 (E k8 (B18 P)) (E k6 (B17 P)))) (r_cond rfl (r_seq (b (ret P)) r_ret) r_skip))) (r_seq (r_seq (b (cnd 17 (E k7 (B16 P)) (E k6 (B15 P)))) (r_cond rfl (r_seq (b (ret P)) r_ret) r_skip)) (r_seq (b (E k1 (B14 P))) (r_seq (r_seq (b (E k2 (L4 P))) (r_block (rL (l4 P) (fun N4=>(r_seq (b (cnd 23 (E k2 (B12 P N4)) (E k1 (B3 P)))) (r_seq (r_cond rfl r_skip (r_exit (fun _ _ h=>h))) (r_seq (r_block (r_seq (b (E k5 (B11 P N4))) (r_seq (b (E k3 (L6 P N4))) (r_block (rL (l6 P N4) (fun N6=>(r_seq (b (cnd 30 (E k3 (B9 P N4 N6)) (E k2 (B5 P N4)))) (r_seq (r_cond rfl r_skip (r_exit (fun _ _ h=>h))) (r_seq (r_block (r_seq (b (E k4 (B8 P N4 N6))) (b (E k3 (B7 P N4 N6))))) (b (E k3 N6))))))))))) (b (E k2 N4))))))))) (r_seq (b (E k0 (B2 P))) (r_seq (b (E k0 (B1 P))) (r_seq (b (ret P)) r_ret))))))))
theorem ac (P:PT) (x0a:Int) (x0b:Value) (H:AHeap) (h:B21 P x0a x0b H):A 17 [(agg ⟨[(I x0a),x0b]⟩)] H P:=
  r_fn T0_ok (c:=code) (n:=48) Tryz.func17 body (by kernel_rfl) (main P) (En_mk (x0a,x0b,()) (by kernel_rfl) ⟨by kernel_rfl,trivial⟩ h)

end F17
namespace F18
abbrev E:=En 15
def O (k:Nat):=ob Tryz.f18 (pth k)
abbrev R (i k:Nat):Code:=.region i ⟨O k⟩ false
def ret (P:PT):EP:=retE T0 15 Tryz.f18 P
abbrev k0:Sk:=[(1,.x)]
def B1 (P:PT):Y k0:=fun x1 H=>
  li H x1 0 (fun v1=>ld1 H x1 1 (fun v2=>A 74 [(agg ⟨[(I v1),v2]⟩)] H (fun v3 H4=>A 73 [v3] H4 (fun v6 H7=>P (tuple ⟨[v6,(I 0)]⟩) H7))))
abbrev k1:Sk:=[]
def B2 (P:PT):Y k1:=fun H=>
  P (tuple ⟨[(slice none 0 0),(I 1)]⟩) H
def B3 (P:PT):Y k1:=fun H=>
  P (tuple ⟨[(slice none 0 0),(I 3)]⟩) H
def B4 (P:PT):Y k0:=fun x1 H=>
  li H x1 0 (fun v1=>pif (decide ((v1:Int)>12)) (B3 P H) (B1 P x1 H))
def B5 (P:PT):Y k0:=fun x1 H=>
  li H x1 0 (fun v1=>ld1 H x1 1 (fun v2=>A 72 [(agg ⟨[(I v1),v2]⟩)] H (fun v3 H4=>asB v3 (fun v5=>pif (!v5) (B2 P H4) (B4 P x1 H4)))))
abbrev k2:Sk:=[(0,.g [.i,.v])]
def B6 (P:PT):Y k2:=fun x0a x0b H=>
  newK H [(I x0a),x0b] 26 (fun b1 H2=>B5 P b1 H2)
def code:Code:=(.seq (R 0 2) (.seq (.block 0 (.seq (R 1 24) (.cond (.tmp 4) (.seq (R 2 100) .ret) (.seq (R 3 102) (.cond (.tmp 8) (.seq (R 4 412) .ret) .skip))))) (.seq (R 5 14) .ret)))
theorem body:Tryz.f18.body=some code:=by kernel_rfl
theorem main P:Z 15 k2 (B6 P) code (ret P):=
  (r_seq (b (E k0 (B5 P))) (r_seq (r_block (r_seq (b (cnd 4 (E k1 (B2 P)) (E k0 (B4 P)))) (r_cond rfl (r_seq (b (ret P)) r_ret) (r_seq (b (cnd 8 (E k1 (B3 P)) (E k0 (B1 P)))) (r_cond rfl (r_seq (b (ret P)) r_ret) r_skip))))) (r_seq (b (ret P)) r_ret)))
theorem ac (P:PT) (x0a:Int) (x0b:Value) (H:AHeap) (h:B6 P x0a x0b H):A 18 [(agg ⟨[(I x0a),x0b]⟩)] H P:=
  r_fn T0_ok (c:=code) (n:=15) Tryz.func18 body (by kernel_rfl) (main P) (En_mk (x0a,x0b,()) (by kernel_rfl) ⟨by kernel_rfl,trivial⟩ h)

end F18
namespace F19
abbrev E:=En 43
def O (k:Nat):=ob Tryz.f19 (pth k)
abbrev R (i k:Nat):Code:=.region i ⟨O k⟩ false
def ret (P:PT):EP:=retE T0 43 Tryz.f19 P
abbrev k0:Sk:=[(5,J)]
def B1 (P:PT):Y k0:=fun x5 H=>
  P (tuple ⟨[(I x5),(I 0)]⟩) H
abbrev k1:Sk:=[(1,.x),(5,J),(18,.v),(19,J),(20,J)]
def B3 (P:PT) (N2:Y k1):Y k1:=fun x1 x5 x18 x19 x20 H=>
  N2 x1 x5 x18 x19 (i64.wrap (x20+1)) H
abbrev k2:Sk:=[(1,.x),(5,J),(8,J),(18,.v),(19,J),(20,J)]
def B4 (P:PT) (N2:Y k1):Y k2:=fun x1 x5 x8 x18 x19 x20 H=>
  B3 P N2 x1 (if (i64.wrap (x8+1))<x5 then i64.wrap (x8+1) else x5) x18 x19 x20 H
def B5 (P:PT) (N2:Y k1):Y k2:=fun x1 x5 x8 x18 x19 x20 H=>
  pif (decide ((x8:Int)≥0)) (B4 P N2 x1 x5 x8 x18 x19 x20 H) (B3 P N2 x1 x5 x18 x19 x20 H)
abbrev k3:Sk:=[(1,.x),(5,J),(6,J),(7,.x),(18,.v),(19,J),(20,J)]
def o6:=O 15666
def B6 (P:PT) (N2:Y k1):Y k3:=fun x1 x5 x6 x7 x18 x19 x20 H=>
  li H x1 0 (fun v1=>ld1 H x1 1 (fun v2=>li H x7 0 (fun v3=>((0:Int)≤x6)∧(li H x7 1 (fun v4=>A 75 [(agg ⟨[(I v1),v2]⟩),(I v3),(int .u64 (u64.wrap (1*2^(min (Int.toNat x6) 64))))] H (fun v5 H6=>(AHeap.le H H6)∧(idxK v5 v4 1 (fun b8 o9=>li H6 b8 o9 (fun v10=>B5 P N2 x1 x5 v10 x18 x19 x20 H6)))))))))
theorem q6 (P:PT) (N2:Y k1):QD Tryz.prog T0 43 o6 [(0,false),(1,false),(2,false),(3,false),(4,false),(6,false),(7,false),(5,true),(8,false),(9,false),(10,false)] (En 43 k2 (B5 P N2)) k3 (B6 P N2):=fun _ _ _ _ _ _ _ _ _  => by kernel_rfl
def B7 (P:PT) (N2:Y k1):Y k1:=fun x1 x5 x18 x19 x20 H=>
  idxK x18 x20 2 (fun b1 o2=>li H b1 o2 (fun v3=>li H b1 (o2+1) (fun v4=>newK H [(I 0),(I 0)] 66 (fun b5 H6=>stK H6 b5 0 [(I v3),(I v4)] (fun H7=>B6 P N2 x1 x5 x20 b5 x18 x19 x20 H7)))))
def B8 (P:PT) (N2:Y k1):Y k1:=fun x1 x5 x18 x19 x20 H=>
  pif (decide ((x20:Int)<x19)) (B7 P N2 x1 x5 x18 x19 x20 H) (B1 P x5 H)
def L2 (P:PT):Y k1:=fun x1 x5 x18 x19 x20 H=>
  ∃ (I:Y k1) (μ:NTy k1 (AHeap→Nat)),I x1 x5 x18 x19 x20 H∧∀ y1 y5 y18 y19 y20 G,I y1 y5 y18 y19 y20 G→B8 P (fun z1 z5 z18 z19 z20 G'=>I z1 z5 z18 z19 z20 G'∧μ z1 z5 z18 z19 z20 G'<μ y1 y5 y18 y19 y20 G) y1 y5 y18 y19 y20 G
theorem l2 P:LQ k1 (L2 P) (B8 P):=fun ⟨_,_,_,_,_,_⟩ _ ⟨I,μ,h0,hI⟩=>⟨apT _ I,apT _ μ,h0,fun ⟨_,_,_,_,_,_⟩ _ h=>hI _ _ _ _ _ _  h⟩
abbrev k4:Sk:=[(1,.x),(5,J)]
def o9:=O 60
def B9 (P:PT):Y k4:=fun x1 x5 H=>
  ld1 H x1 1 (fun v1=>lenK v1 (fun n2=>L2 P x1 x5 v1 (n2:Int) 0 H))
abbrev k5:Sk:=[(1,.x)]
def B10 (P:PT):Y k5:=fun x1 H=>
  li H x1 0 (fun v1=>B9 P x1 (i64.wrap (v1+1)) H)
abbrev k6:Sk:=[(4,J)]
def B11 (P:PT):Y k6:=fun x4 H=>
  P (tuple ⟨[(I 0),(I x4)]⟩) H
abbrev k7:Sk:=[(1,.x),(4,J)]
def B12 (P:PT):Y k7:=fun x1 x4 H=>
  pif ((x4:Int) != 0) (B11 P x4 H) (B10 P x1 H)
def B13 (P:PT):Y k5:=fun x1 H=>
  li H x1 0 (fun v1=>ld1 H x1 1 (fun v2=>A 53 [(agg ⟨[(I v1),v2]⟩),(bool true)] H (fun v3 H4=>asI .i64 v3 (fun v5=>B12 P x1 v5 H4))))
abbrev k8:Sk:=[(0,.g [.i,.v])]
def B14 (P:PT):Y k8:=fun x0a x0b H=>
  newK H [(I x0a),x0b] 26 (fun b1 H2=>B13 P b1 H2)
def code:Code:=(.seq (R 0 2) (.seq (.seq (R 1 12) (.seq (R 2 26) (.cond (.tmp 12) (.seq (R 3 108) .ret) .skip))) (.seq (R 4 14) (.seq (.seq (R 5 60) (.block 0 (.loop (.seq (R 6 488) (.seq (.cond (.tmp 21) .skip (.exit 0)) (.seq (.block 1 (.seq (R 7 7832) (.seq (.region 8 ⟨o6⟩ true) (.seq (R 9 31334) (.cond (.tmp 36) (R 10 62670) .skip))))) (R 11 1959))))))) (.seq (R 12 62) .ret)))))
theorem body:Tryz.f19.body=some code:=by kernel_rfl
theorem main P:Z 43 k8 (B14 P) code (ret P):=
  (r_seq (b (E k5 (B13 P))) (r_seq (r_seq (b (E k7 (B12 P))) (r_seq (b (cnd 12 (E k6 (B11 P)) (E k5 (B10 P)))) (r_cond rfl (r_seq (b (ret P)) r_ret) r_skip))) (r_seq (b (E k4 (B9 P))) (r_seq (r_seq (b (E k1 (L2 P))) (r_block (rL (l2 P) (fun N2=>(r_seq (b (cnd 21 (E k1 (B7 P N2)) (E k0 (B1 P)))) (r_seq (r_cond rfl r_skip (r_exit (fun _ _ h=>h))) (r_seq (r_block (r_seq (b (E k3 (B6 P N2))) (r_seq (rD T0_ok mixed [(0,false),(1,false),(2,false),(3,false),(4,false),(6,false),(7,false),(5,true),(8,false),(9,false),(10,false)] (by kernel_rfl) (q6 P N2)) (r_seq (b (cnd 36 (E k2 (B4 P N2)) (E k1 (B3 P N2)))) (r_cond rfl (b (E k1 (B3 P N2))) r_skip))))) (b (E k1 N2))))))))) (r_seq (b (ret P)) r_ret)))))
theorem ac (P:PT) (x0a:Int) (x0b:Value) (H:AHeap) (h:B14 P x0a x0b H):A 19 [(agg ⟨[(I x0a),x0b]⟩)] H P:=
  r_fn T0_ok (c:=code) (n:=43) Tryz.func19 body (by kernel_rfl) (main P) (En_mk (x0a,x0b,()) (by kernel_rfl) ⟨by kernel_rfl,trivial⟩ h)

end F19
namespace F20
abbrev E:=En 13
def O (k:Nat):=ob Tryz.f20 (pth k)
abbrev R (i k:Nat):Code:=.region i ⟨O k⟩ false
def ret (P:PT):EP:=retE T0 13 Tryz.f20 P
abbrev k0:Sk:=[(2,.x),(4,.x),(5,.v)]
def B1 (P:PT):Y k0:=fun x2 x4 x5 H=>
  li H x4 0 (fun v1=>ld1 H x4 1 (fun v2=>stK H x2 0 [(I v1),v2] (fun H3=>li H3 x2 0 (fun v4=>ld1 H3 x2 1 (fun v5=>P (tuple ⟨[(agg ⟨[(I v4),v5]⟩),x5]⟩) H3)))))
abbrev k1:Sk:=[(0,.v),(2,.x)]
def B2 (P:PT):Y k1:=fun x0 x2 H=>
  A 43 [x0] H (fun v1 H2=>tup2 v1 (fun v3 v4=>agg2 v3 (fun v5 v6=>asI .i64 v5 (fun v7=>newK H2 [(I 0),(slice none 0 0)] 26 (fun b10 H11=>stK H11 b10 0 [(I v7),v6] (fun H12=>B1 P x2 b10 v4 H12))))))
abbrev k2:Sk:=[(0,.v)]
def B3 (P:PT):Y k2:=fun x0 H=>
  newK H [(I 0),(slice none 0 0)] 26 (fun b1 H2=>B2 P x0 b1 H2)
def code:Code:=(.seq (R 0 2) (.seq (R 1 6) (.seq (R 2 14) .ret)))
theorem body:Tryz.f20.body=some code:=by kernel_rfl
theorem main P:Z 13 k2 (B3 P) code (ret P):=
  (r_seq (b (E k1 (B2 P))) (r_seq (b (E k0 (B1 P))) (r_seq (b (ret P)) r_ret)))
theorem ac (P:PT) (x0:Value) (H:AHeap) (h:B3 P x0 H):A 20 [x0] H P:=
  r_fn T0_ok (c:=code) (n:=13) Tryz.func20 body (by kernel_rfl) (main P) (En_mk (x0,()) (by kernel_rfl) ⟨by kernel_rfl,trivial⟩ h)

end F20
namespace F21
abbrev E:=En 16
def O (k:Nat):=ob Tryz.f21 (pth k)
abbrev R (i k:Nat):Code:=.region i ⟨O k⟩ false
def ret (P:PT):EP:=retE T0 16 Tryz.f21 P
abbrev k0:Sk:=[(1,.v),(2,.x)]
def B1 (P:PT):Y k0:=fun x1 x2 H=>
  li H x2 0 (fun v1=>ld1 H x2 1 (fun v2=>A 50 [(agg ⟨[(I v1),v2]⟩),x1] H (fun v3 H4=>asB v3 (fun v5=>P (tuple ⟨[(bool v5),(I 0)]⟩) H4))))
abbrev k1:Sk:=[(6,J)]
def B2 (P:PT):Y k1:=fun x6 H=>
  P (tuple ⟨[(bool false),(I x6)]⟩) H
abbrev k2:Sk:=[(1,.v),(2,.x),(6,J)]
def B3 (P:PT):Y k2:=fun x1 x2 x6 H=>
  pif ((x6:Int) != 0) (B2 P x6 H) (B1 P x1 x2 H)
def B4 (P:PT):Y k0:=fun x1 x2 H=>
  li H x2 0 (fun v1=>ld1 H x2 1 (fun v2=>A 49 [(agg ⟨[(I v1),v2]⟩),x1] H (fun v3 H4=>asI .i64 v3 (fun v5=>B3 P x1 x2 v5 H4))))
abbrev k3:Sk:=[(0,.g [.i,.v]),(1,.v)]
def B5 (P:PT):Y k3:=fun x0a x0b x1 H=>
  newK H [(I x0a),x0b] 26 (fun b1 H2=>B4 P x1 b1 H2)
def code:Code:=(.seq (R 0 2) (.seq (.seq (R 1 12) (.seq (R 2 26) (.cond (.tmp 11) (.seq (R 3 108) .ret) .skip))) (.seq (R 4 14) .ret)))
theorem body:Tryz.f21.body=some code:=by kernel_rfl
theorem main P:Z 16 k3 (B5 P) code (ret P):=
  (r_seq (b (E k0 (B4 P))) (r_seq (r_seq (b (E k2 (B3 P))) (r_seq (b (cnd 11 (E k1 (B2 P)) (E k0 (B1 P)))) (r_cond rfl (r_seq (b (ret P)) r_ret) r_skip))) (r_seq (b (ret P)) r_ret)))
theorem ac (P:PT) (x0a:Int) (x0b x1:Value) (H:AHeap) (h:B5 P x0a x0b x1 H):A 21 [(agg ⟨[(I x0a),x0b]⟩),x1] H P:=
  r_fn T0_ok (c:=code) (n:=16) Tryz.func21 body (by kernel_rfl) (main P) (En_mk (x0a,x0b,x1,()) (by kernel_rfl) ⟨by kernel_rfl,by kernel_rfl,trivial⟩ h)

end F21
namespace F22
abbrev E:=En 45
def O (k:Nat):=ob Tryz.f22 (pth k)
abbrev R (i k:Nat):Code:=.region i ⟨O k⟩ false
def ret (P:PT):EP:=retE T0 45 Tryz.f22 P
abbrev k0:Sk:=[(2,.x),(4,.v),(5,.x),(6,.v)]
def B1 (P:PT):Y k0:=fun x2 x4 x5 x6 H=>
  li H x5 0 (fun v1=>ld1 H x5 1 (fun v2=>A 62 [x4,(agg ⟨[(I v1),v2]⟩)] H (fun v3 H4=>agg2 v3 (fun v5 v6=>asI .i64 v5 (fun v7=>stK H4 x2 0 [(I v7),v6] (fun H9=>li H9 x2 0 (fun v10=>ld1 H9 x2 1 (fun v11=>P (tuple ⟨[(agg ⟨[(I v10),v11]⟩),x6]⟩) H9))))))))
abbrev k1:Sk:=[(2,.x),(4,.v),(5,.x)]
def B2 (P:PT):Y k1:=fun x2 x4 x5 H=>
  ld1 H x5 1 (fun v1=>lenK v1 (fun n2=>A 61 [x4,(I (n2:Int)),(I 3)] H (fun v3 H4=>B1 P x2 x4 x5 v3 H4)))
def B3 (P:PT):Y k0:=fun x2 x4 x5 x6 H=>
  A 60 [x4,(I 12)] H (fun v1 H2=>asI .i64 v1 (fun v3=>pif ((v3:Int)==0) (B2 P x2 x4 x5 H2) (B1 P x2 x4 x5 x6 H2)))
abbrev k2:Sk:=[(2,.x),(4,.v),(5,.x),(7,.v)]
def B4 (P:PT):Y k2:=fun x2 x4 x5 x7 H=>
  lenK x7 (fun n1=>A 60 [x4,(I (n1:Int))] H (fun v2 H3=>asI .i64 v2 (fun v4=>idxK x7 v4 1 (fun b5 o6=>ld1 H3 b5 o6 (fun v7=>B3 P x2 x4 x5 v7 H3)))))
abbrev k3:Sk:=[(2,.x),(4,.v),(5,.x),(6,.v),(7,.v)]
def B5 (P:PT):Y k3:=fun x2 x4 x5 x6 x7 H=>
  lenK x7 (fun n1=>pif (decide (((n1:Int):Int)>0)) (A 60 [x4,(I 2)] H (fun v2 H3=>asI .i64 v2 (fun v4=>pif ((v4:Int)==0) (B4 P x2 x4 x5 x7 H3) (B3 P x2 x4 x5 x6 H3)))) (B3 P x2 x4 x5 x6 H))
def o6:=O 124
def B6 (P:PT):Y k0:=fun x2 x4 x5 x6 H=>
  li H x5 0 (fun v1=>ld1 H x5 1 (fun v2=>A 51 [(agg ⟨[(I v1),v2]⟩),x6] H (fun v3 H4=>B5 P x2 x4 x5 x6 v3 H4)))
def B7 (P:PT):Y k1:=fun x2 x4 x5 H=>
  li H x5 0 (fun v1=>ld1 H x5 1 (fun v2=>A 59 [x4,(agg ⟨[(I v1),v2]⟩)] H (fun v3 H4=>B6 P x2 x4 x5 v3 H4)))
abbrev k4:Sk:=[(2,.x),(4,.v)]
def B8 (P:PT):Y k4:=fun x2 x4 H=>
  A 58 [x4] H (fun v1 H2=>agg2 v1 (fun v3 v4=>asI .i64 v3 (fun v5=>newK H2 [(I 0),(slice none 0 0)] 26 (fun b7 H8=>stK H8 b7 0 [(I v5),v4] (fun H9=>B7 P x2 x4 b7 H9)))))
abbrev k5:Sk:=[(0,.v),(2,.x)]
def B9 (P:PT):Y k5:=fun x0 x2 H=>
  A 57 [x0] H (fun v1 H2=>B8 P x2 v1 H2)
abbrev k6:Sk:=[(0,.v)]
def B10 (P:PT):Y k6:=fun x0 H=>
  newK H [(I 0),(slice none 0 0)] 26 (fun b1 H2=>B9 P x0 b1 H2)
def code:Code:=(.seq (R 0 2) (.seq (R 1 6) (.seq (R 2 14) (.seq (R 3 30) (.seq (.seq (R 4 124) (.seq (R 5 250) (.cond (.tmp 25) (R 6 502) .skip))) (.seq (.seq (R 7 252) (.cond (.tmp 35) (R 8 506) .skip)) (.seq (R 9 254) .ret)))))))
theorem body:Tryz.f22.body=some code:=by kernel_rfl
theorem main P:Z 45 k6 (B10 P) code (ret P):=
  (r_seq (b (E k5 (B9 P))) (r_seq (b (E k4 (B8 P))) (r_seq (b (E k1 (B7 P))) (r_seq (b (E k0 (B6 P))) (r_seq (r_seq (b (E k3 (B5 P))) (r_seq (b (cnd 25 (E k2 (B4 P)) (E k0 (B3 P)))) (r_cond rfl (b (E k0 (B3 P))) r_skip))) (r_seq (r_seq (b (cnd 35 (E k1 (B2 P)) (E k0 (B1 P)))) (r_cond rfl (b (E k0 (B1 P))) r_skip)) (r_seq (b (ret P)) r_ret)))))))
theorem ac (P:PT) (x0:Value) (H:AHeap) (h:B10 P x0 H):A 22 [x0] H P:=
  r_fn T0_ok (c:=code) (n:=45) Tryz.func22 body (by kernel_rfl) (main P) (En_mk (x0,()) (by kernel_rfl) ⟨by kernel_rfl,trivial⟩ h)

end F22
namespace F23
abbrev E:=En 16
def O (k:Nat):=ob Tryz.f23 (pth k)
abbrev R (i k:Nat):Code:=.region i ⟨O k⟩ false
def ret (P:PT):EP:=retE T0 16 Tryz.f23 P
abbrev k0:Sk:=[(1,.v),(2,.x)]
def B1 (P:PT):Y k0:=fun x1 x2 H=>
  li H x2 0 (fun v1=>ld1 H x2 1 (fun v2=>A 76 [(agg ⟨[(I v1),v2]⟩),x1] H (fun v3 H4=>asB v3 (fun v5=>P (tuple ⟨[(bool v5),(I 0)]⟩) H4))))
abbrev k1:Sk:=[(6,J)]
def B2 (P:PT):Y k1:=fun x6 H=>
  P (tuple ⟨[(bool false),(I x6)]⟩) H
abbrev k2:Sk:=[(1,.v),(2,.x),(6,J)]
def B3 (P:PT):Y k2:=fun x1 x2 x6 H=>
  pif ((x6:Int) != 0) (B2 P x6 H) (B1 P x1 x2 H)
def B4 (P:PT):Y k0:=fun x1 x2 H=>
  li H x2 0 (fun v1=>ld1 H x2 1 (fun v2=>A 49 [(agg ⟨[(I v1),v2]⟩),x1] H (fun v3 H4=>asI .i64 v3 (fun v5=>B3 P x1 x2 v5 H4))))
abbrev k3:Sk:=[(0,.g [.i,.v]),(1,.v)]
def B5 (P:PT):Y k3:=fun x0a x0b x1 H=>
  newK H [(I x0a),x0b] 26 (fun b1 H2=>B4 P x1 b1 H2)
def code:Code:=(.seq (R 0 2) (.seq (.seq (R 1 12) (.seq (R 2 26) (.cond (.tmp 11) (.seq (R 3 108) .ret) .skip))) (.seq (R 4 14) .ret)))
theorem body:Tryz.f23.body=some code:=by kernel_rfl
theorem main P:Z 16 k3 (B5 P) code (ret P):=
  (r_seq (b (E k0 (B4 P))) (r_seq (r_seq (b (E k2 (B3 P))) (r_seq (b (cnd 11 (E k1 (B2 P)) (E k0 (B1 P)))) (r_cond rfl (r_seq (b (ret P)) r_ret) r_skip))) (r_seq (b (ret P)) r_ret)))
theorem ac (P:PT) (x0a:Int) (x0b x1:Value) (H:AHeap) (h:B5 P x0a x0b x1 H):A 23 [(agg ⟨[(I x0a),x0b]⟩),x1] H P:=
  r_fn T0_ok (c:=code) (n:=16) Tryz.func23 body (by kernel_rfl) (main P) (En_mk (x0a,x0b,x1,()) (by kernel_rfl) ⟨by kernel_rfl,by kernel_rfl,trivial⟩ h)

end F23
namespace F43
abbrev E:=En 29
def O (k:Nat):=ob Tryz.f43 (pth k)
abbrev R (i k:Nat):Code:=.region i ⟨O k⟩ false
def ret (P:PT):EP:=retE T0 29 Tryz.f43 P
abbrev k0:Sk:=[(2,.x),(4,.v),(5,.x),(6,.v)]
def B1 (P:PT):Y k0:=fun x2 x4 x5 x6 H=>
  li H x5 0 (fun v1=>ld1 H x5 1 (fun v2=>A 62 [x4,(agg ⟨[(I v1),v2]⟩)] H (fun v3 H4=>agg2 v3 (fun v5 v6=>asI .i64 v5 (fun v7=>stK H4 x2 0 [(I v7),v6] (fun H9=>li H9 x2 0 (fun v10=>ld1 H9 x2 1 (fun v11=>P (tuple ⟨[(agg ⟨[(I v10),v11]⟩),x6]⟩) H9))))))))
abbrev k1:Sk:=[(2,.x),(4,.v),(5,.x)]
def o2:=O 250
def B2 (P:PT):Y k1:=fun x2 x4 x5 H=>
  ld1 H x5 1 (fun v1=>lenK v1 (fun n2=>newK H [(I 2),(I 6)] 2 (fun b3 H4=>A 78 [x4,(slice (some ⟨b3,0,none⟩) 2 (2+1))] H4 (fun v5 H6=>asI .i64 v5 (fun v7=>(ld1 H6 x5 1 (fun v8=>(v8=v1)∧(H6=H6)))∧(A 61 [x4,(I (n2:Int)),(I v7)] H6 (fun v9 H10=>B1 P x2 x4 x5 v9 H10)))))))
theorem q2 (P:PT):QT Tryz.prog T0 29 o2 (.op 0 [] (.op 1 [] (.op 2 [] (.op 3 [] (.op 4 [] (.op 5 [] (.op 6 [2] (.op 7 [] (.op 8 [] .done))))))))) (En 29 k0 (B1 P)) k1 (B2 P):=fun _ _ _ _ _  => by kernel_rfl
def B3 (P:PT):Y k0:=fun x2 x4 x5 x6 H=>
  A 60 [x4,(I 5)] H (fun v1 H2=>asI .i64 v1 (fun v3=>pif ((v3:Int)==0) (B2 P x2 x4 x5 H2) (B1 P x2 x4 x5 x6 H2)))
def B4 (P:PT):Y k1:=fun x2 x4 x5 H=>
  li H x5 0 (fun v1=>ld1 H x5 1 (fun v2=>A 59 [x4,(agg ⟨[(I v1),v2]⟩)] H (fun v3 H4=>B3 P x2 x4 x5 v3 H4)))
abbrev k2:Sk:=[(2,.x),(4,.v)]
def B5 (P:PT):Y k2:=fun x2 x4 H=>
  A 58 [x4] H (fun v1 H2=>agg2 v1 (fun v3 v4=>asI .i64 v3 (fun v5=>newK H2 [(I 0),(slice none 0 0)] 26 (fun b7 H8=>stK H8 b7 0 [(I v5),v4] (fun H9=>B4 P x2 x4 b7 H9)))))
abbrev k3:Sk:=[(0,.v),(2,.x)]
def B6 (P:PT):Y k3:=fun x0 x2 H=>
  A 57 [x0] H (fun v1 H2=>B5 P x2 v1 H2)
abbrev k4:Sk:=[(0,.v)]
def B7 (P:PT):Y k4:=fun x0 H=>
  newK H [(I 0),(slice none 0 0)] 26 (fun b1 H2=>B6 P x0 b1 H2)
def code:Code:=(.seq (R 0 2) (.seq (R 1 6) (.seq (R 2 14) (.seq (R 3 30) (.seq (.seq (R 4 124) (.cond (.tmp 16) (.region 5 ⟨o2⟩ true) .skip)) (.seq (R 6 126) .ret))))))
theorem body:Tryz.f43.body=some code:=by kernel_rfl
theorem main P:Z 29 k4 (B7 P) code (ret P):=
  (r_seq (b (E k3 (B6 P))) (r_seq (b (E k2 (B5 P))) (r_seq (b (E k1 (B4 P))) (r_seq (b (E k0 (B3 P))) (r_seq (r_seq (b (cnd 16 (E k1 (B2 P)) (E k0 (B1 P)))) (r_cond rfl (rT T0_ok mixed (.op 0 [] (.op 1 [] (.op 2 [] (.op 3 [] (.op 4 [] (.op 5 [] (.op 6 [2] (.op 7 [] (.op 8 [] .done))))))))) (by kernel_rfl) (q2 P)) r_skip)) (r_seq (b (ret P)) r_ret))))))
theorem ac (P:PT) (x0:Value) (H:AHeap) (h:B7 P x0 H):A 43 [x0] H P:=
  r_fn T0_ok (c:=code) (n:=29) Tryz.func43 body (by kernel_rfl) (main P) (En_mk (x0,()) (by kernel_rfl) ⟨by kernel_rfl,trivial⟩ h)

end F43
namespace F44
abbrev E:=En 12
def O (k:Nat):=ob Tryz.f44 (pth k)
abbrev R (i k:Nat):Code:=.region i ⟨O k⟩ false
def ret (P:PT):EP:=retE T0 12 Tryz.f44 P
abbrev k0:Sk:=[(1,.v),(2,.x)]
def o1:=O 6
def B1 (P:PT):Y k0:=fun x1 x2 H=>
  li H x2 0 (fun v1=>ld1 H x2 1 (fun v2=>ld1 H x2 1 (fun v3=>A 55 [v3] H (fun v4 H5=>asI .i64 v4 (fun v6=>(AHeap.le H H5)∧(A 54 [x1,(I v6)] H5 (fun v7 H8=>asB v7 (fun v9=>(AHeap.le H5 H8)∧(A 53 [(agg ⟨[(I v1),v2]⟩),(bool v9)] H8 (fun v10 H11=>asI .i64 v10 (fun v12=>P (I v12) H11)))))))))))
theorem q1 (P:PT):QD Tryz.prog T0 12 o1 [(0,false),(1,false),(2,false),(3,false),(4,true),(5,true),(6,false),(7,false)] (ret P) k0 (B1 P):=fun _ _ _ _  => by kernel_rfl
abbrev k1:Sk:=[(0,.g [.i,.v]),(1,.v)]
def B2 (P:PT):Y k1:=fun x0a x0b x1 H=>
  newK H [(I x0a),x0b] 26 (fun b1 H2=>B1 P x1 b1 H2)
def code:Code:=(.seq (R 0 2) (.seq (.region 1 ⟨o1⟩ true) .ret))
theorem body:Tryz.f44.body=some code:=by kernel_rfl
theorem main P:Z 12 k1 (B2 P) code (ret P):=
  (r_seq (b (E k0 (B1 P))) (r_seq (rD T0_ok mixed [(0,false),(1,false),(2,false),(3,false),(4,true),(5,true),(6,false),(7,false)] (by kernel_rfl) (q1 P)) r_ret))
theorem ac (P:PT) (x0a:Int) (x0b x1:Value) (H:AHeap) (h:B2 P x0a x0b x1 H):A 44 [(agg ⟨[(I x0a),x0b]⟩),x1] H P:=
  r_fn T0_ok (c:=code) (n:=12) Tryz.func44 body (by kernel_rfl) (main P) (En_mk (x0a,x0b,x1,()) (by kernel_rfl) ⟨by kernel_rfl,by kernel_rfl,trivial⟩ h)

end F44
namespace F45
abbrev E:=En 21
def O (k:Nat):=ob Tryz.f45 (pth k)
abbrev R (i k:Nat):Code:=.region i ⟨O k⟩ false
def ret (P:PT):EP:=retE T0 21 Tryz.f45 P
abbrev k0:Sk:=[]
def B1 (P:PT):Y k0:=fun H=>
  P (bool true) H
abbrev k1:Sk:=[(1,.i .u64),(2,.x),(7,J),(8,J)]
def B3 (P:PT) (N2:Y k1):Y k1:=fun x1 x2 x7 x8 H=>
  N2 x1 x2 x7 (i64.wrap (x8+1)) H
def B4 (P:PT) (N2:Y k1):Y k0:=fun H=>
  P (bool false) H
abbrev k2:Sk:=[(1,.i .u64),(2,.x),(5,J),(7,J),(8,J)]
def B5 (P:PT) (N2:Y k1):Y k2:=fun x1 x2 x5 x7 x8 H=>
  li H x2 0 (fun v1=>ld1 H x2 1 (fun v2=>A 106 [(agg ⟨[(I v1),v2]⟩),(I x5)] H (fun v3 H4=>A 46 [v3] H4 (fun v6 H7=>asI .u64 v6 (fun v8=>A 107 [(int .u64 (u64.wrap (BitVec.ofInt 64 v8&&&BitVec.ofInt 64 x1).toNat))] H7 (fun v9 H10=>asI .i64 v9 (fun v11=>pif ((Int.tmod v11 2:Int) != 0) (B4 P N2 H10) (B3 P N2 x1 x2 x7 x8 H10))))))))
def B6 (P:PT) (N2:Y k1):Y k1:=fun x1 x2 x7 x8 H=>
  B5 P N2 x1 x2 x8 x7 x8 H
def B7 (P:PT) (N2:Y k1):Y k1:=fun x1 x2 x7 x8 H=>
  pif (decide ((x8:Int)<x7)) (B6 P N2 x1 x2 x7 x8 H) (B1 P H)
def L2 (P:PT):Y k1:=fun x1 x2 x7 x8 H=>
  ∃ (I:Y k1) (μ:NTy k1 (AHeap→Nat)),I x1 x2 x7 x8 H∧∀ y1 y2 y7 y8 G,I y1 y2 y7 y8 G→B7 P (fun z1 z2 z7 z8 G'=>I z1 z2 z7 z8 G'∧μ z1 z2 z7 z8 G'<μ y1 y2 y7 y8 G) y1 y2 y7 y8 G
theorem l2 P:LQ k1 (L2 P) (B7 P):=fun ⟨_,_,_,_,_⟩ _ ⟨I,μ,h0,hI⟩=>⟨apT _ I,apT _ μ,h0,fun ⟨_,_,_,_,_⟩ _ h=>hI _ _ _ _ _  h⟩
abbrev k3:Sk:=[(1,.i .u64),(2,.x)]
def B8 (P:PT):Y k3:=fun x1 x2 H=>
  li H x2 0 (fun v1=>L2 P x1 x2 v1 0 H)
abbrev k4:Sk:=[(0,.g [.i,.v]),(1,.i .u64)]
def B9 (P:PT):Y k4:=fun x0a x0b x1 H=>
  newK H [(I x0a),x0b] 26 (fun b1 H2=>B8 P x1 b1 H2)
def code:Code:=(.seq (R 0 2) (.seq (.seq (R 1 12) (.block 0 (.loop (.seq (R 2 104) (.seq (.cond (.tmp 9) .skip (.exit 0)) (.seq (.block 1 (.seq (R 3 1688) (.seq (R 4 3378) (.cond (.tmp 19) (.seq (R 5 13516) .ret) .skip)))) (R 6 423))))))) (.seq (R 7 14) .ret)))
theorem body:Tryz.f45.body=some code:=by kernel_rfl
theorem main P:Z 21 k4 (B9 P) code (ret P):=
  (r_seq (b (E k3 (B8 P))) (r_seq (r_seq (b (E k1 (L2 P))) (r_block (rL (l2 P) (fun N2=>(r_seq (b (cnd 9 (E k1 (B6 P N2)) (E k0 (B1 P)))) (r_seq (r_cond rfl r_skip (r_exit (fun _ _ h=>h))) (r_seq (r_block (r_seq (b (E k2 (B5 P N2))) (r_seq (b (cnd 19 (E k0 (B4 P N2)) (E k1 (B3 P N2)))) (r_cond rfl (r_seq (b (ret P)) r_ret) r_skip)))) (b (E k1 N2))))))))) (r_seq (b (ret P)) r_ret)))
theorem ac (P:PT) (x0a:Int) (x0b:Value) (x1:Int) (H:AHeap) (h:B9 P x0a x0b x1 H):A 45 [(agg ⟨[(I x0a),x0b]⟩),(int .u64 x1)] H P:=
  r_fn T0_ok (c:=code) (n:=21) Tryz.func45 body (by kernel_rfl) (main P) (En_mk (x0a,x0b,x1,()) (by kernel_rfl) ⟨by kernel_rfl,by kernel_rfl,trivial⟩ h)

end F45
namespace F46
abbrev E:=En 18
def O (k:Nat):=ob Tryz.f46 (pth k)
abbrev R (i k:Nat):Code:=.region i ⟨O k⟩ false
def ret (P:PT):EP:=retE T0 18 Tryz.f46 P
abbrev k0:Sk:=[(3,.i .u64)]
def B1 (P:PT):Y k0:=fun x3 H=>
  P (int .u64 x3) H
abbrev k1:Sk:=[(3,.i .u64),(6,.v),(7,J),(8,J)]
def B3 (P:PT) (N2:Y k1):Y k1:=fun x3 x6 x7 x8 H=>
  N2 x3 x6 x7 (i64.wrap (x8+1)) H
abbrev k2:Sk:=[(3,.i .u64),(5,J),(6,.v),(7,J),(8,J)]
def B4 (P:PT) (N2:Y k1):Y k2:=fun x3 x5 x6 x7 x8 H=>
  ((0:Int)≤x5)∧(B3 P N2 (u64.wrap (BitVec.ofInt 64 x3|||BitVec.ofInt 64 (u64.wrap (1*2^(min (Int.toNat x5) 64)))).toNat) x6 x7 x8 H)
def B5 (P:PT) (N2:Y k1):Y k1:=fun x3 x6 x7 x8 H=>
  idxK x6 x8 1 (fun b1 o2=>li H b1 o2 (fun v3=>B4 P N2 x3 v3 x6 x7 x8 H))
def B6 (P:PT) (N2:Y k1):Y k1:=fun x3 x6 x7 x8 H=>
  pif (decide ((x8:Int)<x7)) (B5 P N2 x3 x6 x7 x8 H) (B1 P x3 H)
def L2 (P:PT):Y k1:=fun x3 x6 x7 x8 H=>
  ∃ (I:Y k1) (μ:NTy k1 (AHeap→Nat)),I x3 x6 x7 x8 H∧∀ y3 y6 y7 y8 G,I y3 y6 y7 y8 G→B6 P (fun z3 z6 z7 z8 G'=>I z3 z6 z7 z8 G'∧μ z3 z6 z7 z8 G'<μ y3 y6 y7 y8 G) y3 y6 y7 y8 G
theorem l2 P:LQ k1 (L2 P) (B6 P):=fun ⟨_,_,_,_,_⟩ _ ⟨I,μ,h0,hI⟩=>⟨apT _ I,apT _ μ,h0,fun ⟨_,_,_,_,_⟩ _ h=>hI _ _ _ _ _  h⟩
abbrev k3:Sk:=[(0,.v),(3,.i .u64)]
def B7 (P:PT):Y k3:=fun x0 x3 H=>
  lenK x0 (fun n1=>L2 P x3 x0 (n1:Int) 0 H)
abbrev k4:Sk:=[(0,.v)]
def B8 (P:PT):Y k4:=fun x0 H=>
  B7 P x0 0 H
def B9 (P:PT):Y k4:=fun x0 H=>
  B8 P x0 H
def code:Code:=(.seq (R 0 2) (.seq (R 1 6) (.seq (.seq (R 2 28) (.block 0 (.loop (.seq (R 3 232) (.seq (.cond (.tmp 9) .skip (.exit 0)) (.seq (.block 1 (.seq (R 4 3736) (R 5 3737))) (R 6 935))))))) (.seq (R 7 30) .ret))))
theorem body:Tryz.f46.body=some code:=by kernel_rfl
theorem main P:Z 18 k4 (B9 P) code (ret P):=
  (r_seq (b (E k4 (B8 P))) (r_seq (b (E k3 (B7 P))) (r_seq (r_seq (b (E k1 (L2 P))) (r_block (rL (l2 P) (fun N2=>(r_seq (b (cnd 9 (E k1 (B5 P N2)) (E k0 (B1 P)))) (r_seq (r_cond rfl r_skip (r_exit (fun _ _ h=>h))) (r_seq (r_block (r_seq (b (E k2 (B4 P N2))) (b (E k1 (B3 P N2))))) (b (E k1 N2))))))))) (r_seq (b (ret P)) r_ret))))
theorem ac (P:PT) (x0:Value) (H:AHeap) (h:B9 P x0 H):A 46 [x0] H P:=
  r_fn T0_ok (c:=code) (n:=18) Tryz.func46 body (by kernel_rfl) (main P) (En_mk (x0,()) (by kernel_rfl) ⟨by kernel_rfl,trivial⟩ h)

end F46
namespace F47
abbrev E:=En 19
def O (k:Nat):=ob Tryz.f47 (pth k)
abbrev R (i k:Nat):Code:=.region i ⟨O k⟩ false
def ret (P:PT):EP:=retE T0 19 Tryz.f47 P
abbrev k0:Sk:=[(3,.v)]
def B1 (P:PT):Y k0:=fun x3 H=>
  P x3 H
abbrev k1:Sk:=[(3,.v),(6,.v),(7,J),(8,J)]
def B3 (P:PT) (N2:Y k1):Y k1:=fun x3 x6 x7 x8 H=>
  N2 x3 x6 x7 (i64.wrap (x8+1)) H
abbrev k2:Sk:=[(3,.v),(5,.i .u64),(6,.v),(7,J),(8,J)]
def B4 (P:PT) (N2:Y k1):Y k2:=fun x3 x5 x6 x7 x8 H=>
  A 56 [(int .u64 x5)] H (fun v1 H2=>pif (Value.oneCell' v1) (newK H2 [v1] 27 (fun b4 H5=>apK T0 27 H5 x3 (slice (some ⟨b4,0,none⟩) 1 (1+1)) (fun v6 H7=>B3 P N2 v6 x6 x7 x8 H7))) False)
def B5 (P:PT) (N2:Y k1):Y k1:=fun x3 x6 x7 x8 H=>
  idxK x6 x8 1 (fun b1 o2=>ldI .u64 H b1 o2 (fun v3=>B4 P N2 x3 v3 x6 x7 x8 H))
def B6 (P:PT) (N2:Y k1):Y k1:=fun x3 x6 x7 x8 H=>
  pif (decide ((x8:Int)<x7)) (B5 P N2 x3 x6 x7 x8 H) (B1 P x3 H)
def L2 (P:PT):Y k1:=fun x3 x6 x7 x8 H=>
  ∃ (I:Y k1) (μ:NTy k1 (AHeap→Nat)),I x3 x6 x7 x8 H∧∀ y3 y6 y7 y8 G,I y3 y6 y7 y8 G→B6 P (fun z3 z6 z7 z8 G'=>I z3 z6 z7 z8 G'∧μ z3 z6 z7 z8 G'<μ y3 y6 y7 y8 G) y3 y6 y7 y8 G
theorem l2 P:LQ k1 (L2 P) (B6 P):=fun ⟨_,_,_,_,_⟩ _ ⟨I,μ,h0,hI⟩=>⟨apT _ I,apT _ μ,h0,fun ⟨_,_,_,_,_⟩ _ h=>hI _ _ _ _ _  h⟩
abbrev k3:Sk:=[(0,.v),(3,.v)]
def B7 (P:PT):Y k3:=fun x0 x3 H=>
  lenK x0 (fun n1=>L2 P x3 x0 (n1:Int) 0 H)
abbrev k4:Sk:=[(0,.v)]
def B8 (P:PT):Y k4:=fun x0 H=>
  B7 P x0 (slice none 0 0) H
def B9 (P:PT):Y k4:=fun x0 H=>
  B8 P x0 H
def code:Code:=(.seq (R 0 2) (.seq (R 1 6) (.seq (.seq (R 2 28) (.block 0 (.loop (.seq (R 3 232) (.seq (.cond (.tmp 9) .skip (.exit 0)) (.seq (.block 1 (.seq (R 4 3736) (R 5 3737))) (R 6 935))))))) (.seq (R 7 30) .ret))))
theorem body:Tryz.f47.body=some code:=by kernel_rfl
theorem main P:Z 19 k4 (B9 P) code (ret P):=
  (r_seq (b (E k4 (B8 P))) (r_seq (b (E k3 (B7 P))) (r_seq (r_seq (b (E k1 (L2 P))) (r_block (rL (l2 P) (fun N2=>(r_seq (b (cnd 9 (E k1 (B5 P N2)) (E k0 (B1 P)))) (r_seq (r_cond rfl r_skip (r_exit (fun _ _ h=>h))) (r_seq (r_block (r_seq (b (E k2 (B4 P N2))) (b (E k1 (B3 P N2))))) (b (E k1 N2))))))))) (r_seq (b (ret P)) r_ret))))
theorem ac (P:PT) (x0:Value) (H:AHeap) (h:B9 P x0 H):A 47 [x0] H P:=
  r_fn T0_ok (c:=code) (n:=19) Tryz.func47 body (by kernel_rfl) (main P) (En_mk (x0,()) (by kernel_rfl) ⟨by kernel_rfl,trivial⟩ h)

end F47
namespace F48
abbrev E:=En 81
def O (k:Nat):=ob Tryz.f48 (pth k)
abbrev R (i k:Nat):Code:=.region i ⟨O k⟩ false
def ret (P:PT):EP:=retE T0 81 Tryz.f48 P
abbrev k0:Sk:=[(5,.v)]
def B1 (P:PT):Y k0:=fun x5 H=>
  P x5 H
abbrev k1:Sk:=[(1,.i .u64),(2,.x),(5,.v),(15,.v),(16,J),(17,J)]
def o3:=O 935
def B3 (P:PT) (N2:Y k1):Y k1:=fun x1 x2 x5 x15 x16 x17 H=>
  N2 x1 x2 x5 x15 x16 (i64.wrap (x17+1)) H
abbrev k2:Sk:=[(1,.i .u64),(2,.x),(5,.v),(8,.i .u64),(15,.v),(16,J),(17,J)]
def B4 (P:PT) (N2:Y k1):Y k2:=fun x1 x2 x5 x8 x15 x16 x17 H=>
  newK H [(int .u64 x8)] 55 (fun b1 H2=>apK T0 55 H2 x5 (slice (some ⟨b1,0,none⟩) 1 (1+1)) (fun v3 H4=>B3 P N2 x1 x2 v3 x15 x16 x17 H4))
abbrev k3:Sk:=[(1,.i .u64),(2,.x),(5,.v),(8,.i .u64),(9,.v),(15,.v),(16,J),(17,J)]
def o6:=O 956883
def B6 (P:PT) (N2:Y k1) (N5:Y k3):Y k3:=fun x1 x2 x5 x8 x9 x15 x16 x17 H=>
  sliceK H 2 x9 (some (I 1)) none 1 (fun v1=>N5 x1 x2 x5 x8 v1 x15 x16 x17 H)
abbrev k4:Sk:=[(1,.i .u64),(2,.x),(5,.v),(8,.i .u64),(9,.v),(15,.v),(16,J),(17,J),(44,.g [.i,.i]),(45,J)]
def B8 (P:PT) (N2:Y k1) (N5:Y k3) (N7:Y k4):Y k4:=fun x1 x2 x5 x8 x9 x15 x16 x17 x44a x44b x45 H=>
  N7 x1 x2 x5 x8 x9 x15 x16 x17 x44a x44b (i64.wrap (x45+1)) H
abbrev k5:Sk:=[(1,.i .u64),(2,.x),(5,.v),(8,.i .u64),(9,.v),(15,.v),(16,J),(17,J),(44,.g [.i,.i]),(45,J),(50,.v),(51,J),(52,J)]
def B10 (P:PT) (N2:Y k1) (N5:Y k3) (N7:Y k4) (N9:Y k5):Y k5:=fun x1 x2 x5 x8 x9 x15 x16 x17 x44a x44b x45 x50 x51 x52 H=>
  N9 x1 x2 x5 x8 x9 x15 x16 x17 x44a x44b x45 x50 x51 (i64.wrap (x52+1)) H
abbrev k6:Sk:=[(1,.i .u64),(2,.x),(5,.v),(8,.i .u64),(9,.v),(13,J),(15,.v),(16,J),(17,J),(44,.g [.i,.i]),(45,J),(50,.v),(51,J),(52,J)]
def B11 (P:PT) (N2:Y k1) (N5:Y k3) (N7:Y k4) (N9:Y k5):Y k6:=fun x1 x2 x5 x8 x9 x13 x15 x16 x17 x44a x44b x45 x50 x51 x52 H=>
  newK H [(I x13)] 2 (fun b1 H2=>apK T0 2 H2 x9 (slice (some ⟨b1,0,none⟩) 1 (1+1)) (fun v3 H4=>B10 P N2 N5 N7 N9 x1 x2 x5 x8 v3 x15 x16 x17 x44a x44b x45 x50 x51 x52 H4))
def B12 (P:PT) (N2:Y k1) (N5:Y k3) (N7:Y k4) (N9:Y k5):Y k6:=fun x1 x2 x5 x8 x9 x13 x15 x16 x17 x44a x44b x45 x50 x51 x52 H=>
  ((0:Int)≤x13)∧(B11 P N2 N5 N7 N9 x1 x2 x5 (u64.wrap (BitVec.ofInt 64 x8|||BitVec.ofInt 64 (u64.wrap (1*2^(min (Int.toNat x13) 64)))).toNat) x9 x13 x15 x16 x17 x44a x44b x45 x50 x51 x52 H)
def B13 (P:PT) (N2:Y k1) (N5:Y k3) (N7:Y k4) (N9:Y k5):Y k6:=fun x1 x2 x5 x8 x9 x13 x15 x16 x17 x44a x44b x45 x50 x51 x52 H=>
  A 110 [(int .u64 x1),(I x13)] H (fun v1 H2=>asB v1 (fun v3=>pif v3 (A 110 [(int .u64 x8),(I x13)] H2 (fun v4 H5=>asB v4 (fun v6=>pif (!v6) (B12 P N2 N5 N7 N9 x1 x2 x5 x8 x9 x13 x15 x16 x17 x44a x44b x45 x50 x51 x52 H5) (B10 P N2 N5 N7 N9 x1 x2 x5 x8 x9 x15 x16 x17 x44a x44b x45 x50 x51 x52 H5)))) (B10 P N2 N5 N7 N9 x1 x2 x5 x8 x9 x15 x16 x17 x44a x44b x45 x50 x51 x52 H2)))
def B14 (P:PT) (N2:Y k1) (N5:Y k3) (N7:Y k4) (N9:Y k5):Y k5:=fun x1 x2 x5 x8 x9 x15 x16 x17 x44a x44b x45 x50 x51 x52 H=>
  idxK x50 x52 1 (fun b1 o2=>li H b1 o2 (fun v3=>B13 P N2 N5 N7 N9 x1 x2 x5 x8 x9 v3 x15 x16 x17 x44a x44b x45 x50 x51 x52 H))
def B15 (P:PT) (N2:Y k1) (N5:Y k3) (N7:Y k4) (N9:Y k5):Y k5:=fun x1 x2 x5 x8 x9 x15 x16 x17 x44a x44b x45 x50 x51 x52 H=>
  pif (decide ((x52:Int)<x51)) (B14 P N2 N5 N7 N9 x1 x2 x5 x8 x9 x15 x16 x17 x44a x44b x45 x50 x51 x52 H) (B8 P N2 N5 N7 x1 x2 x5 x8 x9 x15 x16 x17 x44a x44b x45 H)
def L9 (P:PT) (N2:Y k1) (N5:Y k3) (N7:Y k4):Y k5:=fun x1 x2 x5 x8 x9 x15 x16 x17 x44a x44b x45 x50 x51 x52 H=>
  ∃ (I:Y k5) (μ:NTy k5 (AHeap→Nat)),I x1 x2 x5 x8 x9 x15 x16 x17 x44a x44b x45 x50 x51 x52 H∧∀ y1 y2 y5 y8 y9 y15 y16 y17 y44a y44b y45 y50 y51 y52 G,I y1 y2 y5 y8 y9 y15 y16 y17 y44a y44b y45 y50 y51 y52 G→B15 P N2 N5 N7 (fun z1 z2 z5 z8 z9 z15 z16 z17 z44a z44b z45 z50 z51 z52 G'=>I z1 z2 z5 z8 z9 z15 z16 z17 z44a z44b z45 z50 z51 z52 G'∧μ z1 z2 z5 z8 z9 z15 z16 z17 z44a z44b z45 z50 z51 z52 G'<μ y1 y2 y5 y8 y9 y15 y16 y17 y44a y44b y45 y50 y51 y52 G) y1 y2 y5 y8 y9 y15 y16 y17 y44a y44b y45 y50 y51 y52 G
theorem l9 P N2 N5 N7:LQ k5 (L9 P N2 N5 N7) (B15 P N2 N5 N7):=fun ⟨_,_,_,_,_,_,_,_,_,_,_,_,_,_,_⟩ _ ⟨I,μ,h0,hI⟩=>⟨apT _ I,apT _ μ,h0,fun ⟨_,_,_,_,_,_,_,_,_,_,_,_,_,_,_⟩ _ h=>hI _ _ _ _ _ _ _ _ _ _ _ _ _ _ _  h⟩
abbrev k7:Sk:=[(1,.i .u64),(2,.x),(5,.v),(8,.i .u64),(9,.v),(11,J),(15,.v),(16,J),(17,J),(44,.g [.i,.i]),(45,J)]
def B16 (P:PT) (N2:Y k1) (N5:Y k3) (N7:Y k4):Y k7:=fun x1 x2 x5 x8 x9 x11 x15 x16 x17 x44a x44b x45 H=>
  li H x2 0 (fun v1=>ld1 H x2 1 (fun v2=>A 106 [(agg ⟨[(I v1),v2]⟩),(I x11)] H (fun v3 H4=>lenK v3 (fun n6=>L9 P N2 N5 N7 x1 x2 x5 x8 x9 x15 x16 x17 x44a x44b x45 v3 (n6:Int) 0 H4))))
def B17 (P:PT) (N2:Y k1) (N5:Y k3) (N7:Y k4):Y k4:=fun x1 x2 x5 x8 x9 x15 x16 x17 x44a x44b x45 H=>
  bndK x45 2 (atK [(I x44a),(I x44b)] (Int.toNat x45*1) (fun v1=>asI .i64 v1 (fun v2=>B16 P N2 N5 N7 x1 x2 x5 x8 x9 v2 x15 x16 x17 x44a x44b x45 H)))
def B18 (P:PT) (N2:Y k1) (N5:Y k3) (N7:Y k4):Y k4:=fun x1 x2 x5 x8 x9 x15 x16 x17 x44a x44b x45 H=>
  pif (decide ((x45:Int)<2)) (B17 P N2 N5 N7 x1 x2 x5 x8 x9 x15 x16 x17 x44a x44b x45 H) (B6 P N2 N5 x1 x2 x5 x8 x9 x15 x16 x17 H)
def L7 (P:PT) (N2:Y k1) (N5:Y k3):Y k4:=fun x1 x2 x5 x8 x9 x15 x16 x17 x44a x44b x45 H=>
  ∃ (I:Y k4) (μ:NTy k4 (AHeap→Nat)),I x1 x2 x5 x8 x9 x15 x16 x17 x44a x44b x45 H∧∀ y1 y2 y5 y8 y9 y15 y16 y17 y44a y44b y45 G,I y1 y2 y5 y8 y9 y15 y16 y17 y44a y44b y45 G→B18 P N2 N5 (fun z1 z2 z5 z8 z9 z15 z16 z17 z44a z44b z45 G'=>I z1 z2 z5 z8 z9 z15 z16 z17 z44a z44b z45 G'∧μ z1 z2 z5 z8 z9 z15 z16 z17 z44a z44b z45 G'<μ y1 y2 y5 y8 y9 y15 y16 y17 y44a y44b y45 G) y1 y2 y5 y8 y9 y15 y16 y17 y44a y44b y45 G
theorem l7 P N2 N5:LQ k4 (L7 P N2 N5) (B18 P N2 N5):=fun ⟨_,_,_,_,_,_,_,_,_,_,_,_⟩ _ ⟨I,μ,h0,hI⟩=>⟨apT _ I,apT _ μ,h0,fun ⟨_,_,_,_,_,_,_,_,_,_,_,_⟩ _ h=>hI _ _ _ _ _ _ _ _ _ _ _ _  h⟩
def o19:=O 3827528
def B19 (P:PT) (N2:Y k1) (N5:Y k3):Y k3:=fun x1 x2 x5 x8 x9 x15 x16 x17 H=>
  ld1 H x2 1 (fun v1=>idxK x9 0 1 (fun b2 o3=>li H b2 o3 (fun v4=>idxK v1 v4 2 (fun b5 o6=>li H b5 o6 (fun v7=>li H b5 (o6+1) (fun v8=>L7 P N2 N5 x1 x2 x5 x8 x9 x15 x16 x17 v7 v8 0 H))))))
theorem q19 (P:PT) (N2:Y k1) (N5:Y k3):QD Tryz.prog T0 81 o19 [(0,false),(1,false),(2,false),(3,false),(4,false),(5,false),(6,false),(7,false)] (En 81 k4 (L7 P N2 N5)) k3 (B19 P N2 N5):=fun _ _ _ _ _ _ _ _ _ _  => by kernel_rfl
def B20 (P:PT) (N2:Y k1) (N5:Y k3):Y k3:=fun x1 x2 x5 x8 x9 x15 x16 x17 H=>
  lenK x9 (fun n1=>pif (decide (((n1:Int):Int)>0)) (B19 P N2 N5 x1 x2 x5 x8 x9 x15 x16 x17 H) (B4 P N2 x1 x2 x5 x8 x15 x16 x17 H))
def L5 (P:PT) (N2:Y k1):Y k3:=fun x1 x2 x5 x8 x9 x15 x16 x17 H=>
  ∃ (I:Y k3) (μ:NTy k3 (AHeap→Nat)),I x1 x2 x5 x8 x9 x15 x16 x17 H∧∀ y1 y2 y5 y8 y9 y15 y16 y17 G,I y1 y2 y5 y8 y9 y15 y16 y17 G→B20 P N2 (fun z1 z2 z5 z8 z9 z15 z16 z17 G'=>I z1 z2 z5 z8 z9 z15 z16 z17 G'∧μ z1 z2 z5 z8 z9 z15 z16 z17 G'<μ y1 y2 y5 y8 y9 y15 y16 y17 G) y1 y2 y5 y8 y9 y15 y16 y17 G
theorem l5 P N2:LQ k3 (L5 P N2) (B20 P N2):=fun ⟨_,_,_,_,_,_,_,_,_⟩ _ ⟨I,μ,h0,hI⟩=>⟨apT _ I,apT _ μ,h0,fun ⟨_,_,_,_,_,_,_,_,_⟩ _ h=>hI _ _ _ _ _ _ _ _ _  h⟩
abbrev k8:Sk:=[(1,.i .u64),(2,.x),(5,.v),(7,.x),(8,.i .u64),(15,.v),(16,J),(17,J)]
def B21 (P:PT) (N2:Y k1):Y k8:=fun x1 x2 x5 x7 x8 x15 x16 x17 H=>
  li H x7 0 (fun v1=>newK H [(I v1)] 2 (fun b2 H3=>L5 P N2 x1 x2 x5 x8 (slice (some ⟨b2,0,none⟩) 1 (1+1)) x15 x16 x17 H3))
abbrev k9:Sk:=[(1,.i .u64),(2,.x),(5,.v),(7,.x),(15,.v),(16,J),(17,J)]
def B22 (P:PT) (N2:Y k1):Y k9:=fun x1 x2 x5 x7 x15 x16 x17 H=>
  li H x7 0 (fun v1=>((0:Int)≤v1)∧(B21 P N2 x1 x2 x5 x7 (u64.wrap (1*2^(min (Int.toNat v1) 64))) x15 x16 x17 H))
def B23 (P:PT) (N2:Y k1):Y k9:=fun x1 x2 x5 x7 x15 x16 x17 H=>
  lenK x5 (fun n1=>pif (decide (((n1:Int):Int)>0)) (A 108 [x5,(func (.func 109) ⟨[]⟩ ⟨[(pointer (some ⟨x7,0,none⟩))]⟩)] H (fun v2 H3=>asB v2 (fun v4=>pif v4 (B3 P N2 x1 x2 x5 x15 x16 x17 H3) (B22 P N2 x1 x2 x5 x7 x15 x16 x17 H3)))) (B22 P N2 x1 x2 x5 x7 x15 x16 x17 H))
def B24 (P:PT) (N2:Y k1):Y k1:=fun x1 x2 x5 x15 x16 x17 H=>
  idxK x15 x17 1 (fun b1 o2=>li H b1 o2 (fun v3=>newK H [(I 0)] 2 (fun b4 H5=>stK H5 b4 0 [(I v3)] (fun H6=>B23 P N2 x1 x2 x5 b4 x15 x16 x17 H6))))
def B25 (P:PT) (N2:Y k1):Y k1:=fun x1 x2 x5 x15 x16 x17 H=>
  pif (decide ((x17:Int)<x16)) (B24 P N2 x1 x2 x5 x15 x16 x17 H) (B1 P x5 H)
def L2 (P:PT):Y k1:=fun x1 x2 x5 x15 x16 x17 H=>
  ∃ (I:Y k1) (μ:NTy k1 (AHeap→Nat)),I x1 x2 x5 x15 x16 x17 H∧∀ y1 y2 y5 y15 y16 y17 G,I y1 y2 y5 y15 y16 y17 G→B25 P (fun z1 z2 z5 z15 z16 z17 G'=>I z1 z2 z5 z15 z16 z17 G'∧μ z1 z2 z5 z15 z16 z17 G'<μ y1 y2 y5 y15 y16 y17 G) y1 y2 y5 y15 y16 y17 G
theorem l2 P:LQ k1 (L2 P) (B25 P):=fun ⟨_,_,_,_,_,_,_⟩ _ ⟨I,μ,h0,hI⟩=>⟨apT _ I,apT _ μ,h0,fun ⟨_,_,_,_,_,_,_⟩ _ h=>hI _ _ _ _ _ _ _  h⟩
abbrev k10:Sk:=[(1,.i .u64),(2,.x),(5,.v)]
def B26 (P:PT):Y k10:=fun x1 x2 x5 H=>
  A 56 [(int .u64 x1)] H (fun v1 H2=>lenK v1 (fun n4=>L2 P x1 x2 x5 v1 (n4:Int) 0 H2))
abbrev k11:Sk:=[(1,.i .u64),(2,.x)]
def B27 (P:PT):Y k11:=fun x1 x2 H=>
  B26 P x1 x2 (slice none 0 0) H
abbrev k12:Sk:=[(0,.g [.i,.v]),(1,.i .u64)]
def B28 (P:PT):Y k12:=fun x0a x0b x1 H=>
  newK H [(I x0a),x0b] 26 (fun b1 H2=>B27 P x1 b1 H2)
def code:Code:=(.seq (R 0 2) (.seq (R 1 6) (.seq (.seq (R 2 28) (.block 0 (.loop (.seq (R 3 232) (.seq (.cond (.tmp 18) .skip (.exit 0)) (.seq (.block 1 (.seq (R 4 3736) (.seq (.seq (R 5 14948) (.cond (.tmp 28) (.exit 1) .skip)) (.seq (R 6 14950) (.seq (.seq (R 7 59804) (.block 2 (.loop (.seq (.seq (R 8 956880) (.cond (.tmp 35) .skip (.exit 2))) (.seq (.block 3 (.seq (.region 10 ⟨o19⟩ true) (.block 4 (.loop (.seq (R 11 30620232) (.seq (.cond (.tmp 46) .skip (.exit 4)) (.seq (.block 5 (.seq (R 12 489923736) (.seq (R 13 979847474) (.block 6 (.loop (.seq (R 14 7838779800) (.seq (.cond (.tmp 53) .skip (.exit 6)) (.seq (.block 7 (.seq (R 15 125420476824) (.seq (R 16 250840953650) (.cond (.tmp 64) (.seq (R 17 1003363814604) (R 18 1003363814605)) .skip)))) (R 19 31355119207))))))))) (R 20 122480935)))))))) (R 9 956883)))))) (R 21 29903)))))) (R 22 935))))))) (.seq (R 23 30) .ret))))
theorem body:Tryz.f48.body=some code:=by kernel_rfl
theorem main P:Z 81 k12 (B28 P) code (ret P):=
  (r_seq (b (E k11 (B27 P))) (r_seq (b (E k10 (B26 P))) (r_seq (r_seq (b (E k1 (L2 P))) (r_block (rL (l2 P) (fun N2=>(r_seq (b (cnd 18 (E k1 (B24 P N2)) (E k0 (B1 P)))) (r_seq (r_cond rfl r_skip (r_exit (fun _ _ h=>h))) (r_seq (r_block (r_seq (b (E k9 (B23 P N2))) (r_seq (r_seq (b (cnd 28 (E k1 (B3 P N2)) (E k9 (B22 P N2)))) (r_cond rfl (r_exit (fun _ _ h=>h)) r_skip)) (r_seq (b (E k8 (B21 P N2))) (r_seq (r_seq (b (E k3 (L5 P N2))) (r_block (rL (l5 P N2) (fun N5=>(r_seq (r_seq (b (cnd 35 (E k3 (B19 P N2 N5)) (E k2 (B4 P N2)))) (r_cond rfl r_skip (r_exit (fun _ _ h=>h)))) (r_seq (r_block (r_seq (rD T0_ok mixed [(0,false),(1,false),(2,false),(3,false),(4,false),(5,false),(6,false),(7,false)] (by kernel_rfl) (q19 P N2 N5)) (r_block (rL (l7 P N2 N5) (fun N7=>(r_seq (b (cnd 46 (E k4 (B17 P N2 N5 N7)) (E k3 (B6 P N2 N5)))) (r_seq (r_cond rfl r_skip (r_exit (fun _ _ h=>h))) (r_seq (r_block (r_seq (b (E k7 (B16 P N2 N5 N7))) (r_seq (b (E k5 (L9 P N2 N5 N7))) (r_block (rL (l9 P N2 N5 N7) (fun N9=>(r_seq (b (cnd 53 (E k5 (B14 P N2 N5 N7 N9)) (E k4 (B8 P N2 N5 N7)))) (r_seq (r_cond rfl r_skip (r_exit (fun _ _ h=>h))) (r_seq (r_block (r_seq (b (E k6 (B13 P N2 N5 N7 N9))) (r_seq (b (cnd 64 (E k6 (B12 P N2 N5 N7 N9)) (E k5 (B10 P N2 N5 N7 N9)))) (r_cond rfl (r_seq (b (E k6 (B11 P N2 N5 N7 N9))) (b (E k5 (B10 P N2 N5 N7 N9)))) r_skip)))) (b (E k5 N9))))))))))) (b (E k4 N7)))))))))) (b (E k3 N5)))))))) (b (E k1 (B3 P N2)))))))) (b (E k1 N2))))))))) (r_seq (b (ret P)) r_ret))))
theorem ac (P:PT) (x0a:Int) (x0b:Value) (x1:Int) (H:AHeap) (h:B28 P x0a x0b x1 H):A 48 [(agg ⟨[(I x0a),x0b]⟩),(int .u64 x1)] H P:=
  r_fn T0_ok (c:=code) (n:=81) Tryz.func48 body (by kernel_rfl) (main P) (En_mk (x0a,x0b,x1,()) (by kernel_rfl) ⟨by kernel_rfl,by kernel_rfl,trivial⟩ h)

end F48
namespace F49
abbrev E:=En 13
def O (k:Nat):=ob Tryz.f49 (pth k)
abbrev R (i k:Nat):Code:=.region i ⟨O k⟩ false
def ret (P:PT):EP:=retE T0 13 Tryz.f49 P
abbrev k0:Sk:=[(1,.v),(2,.x)]
def B1 (P:PT):Y k0:=fun x1 x2 H=>
  ld1 H x2 1 (fun v1=>lenK v1 (fun n2=>A 111 [x1,(I (n2:Int))] H (fun v3 H4=>asI .i64 v3 (fun v5=>P (I v5) H4))))
abbrev k1:Sk:=[]
def B2 (P:PT):Y k1:=fun H=>
  P (I 1) H
def B3 (P:PT):Y k0:=fun x1 x2 H=>
  li H x2 0 (fun v1=>ld1 H x2 1 (fun v2=>A 72 [(agg ⟨[(I v1),v2]⟩)] H (fun v3 H4=>asB v3 (fun v5=>pif (!v5) (B2 P H4) (B1 P x1 x2 H4)))))
abbrev k2:Sk:=[(0,.g [.i,.v]),(1,.v)]
def B4 (P:PT):Y k2:=fun x0a x0b x1 H=>
  newK H [(I x0a),x0b] 26 (fun b1 H2=>B3 P x1 b1 H2)
def code:Code:=(.seq (R 0 2) (.seq (.seq (R 1 12) (.cond (.tmp 7) (.seq (R 2 52) .ret) .skip)) (.seq (R 3 14) .ret)))
theorem body:Tryz.f49.body=some code:=by kernel_rfl
theorem main P:Z 13 k2 (B4 P) code (ret P):=
  (r_seq (b (E k0 (B3 P))) (r_seq (r_seq (b (cnd 7 (E k1 (B2 P)) (E k0 (B1 P)))) (r_cond rfl (r_seq (b (ret P)) r_ret) r_skip)) (r_seq (b (ret P)) r_ret)))
theorem ac (P:PT) (x0a:Int) (x0b x1:Value) (H:AHeap) (h:B4 P x0a x0b x1 H):A 49 [(agg ⟨[(I x0a),x0b]⟩),x1] H P:=
  r_fn T0_ok (c:=code) (n:=13) Tryz.func49 body (by kernel_rfl) (main P) (En_mk (x0a,x0b,x1,()) (by kernel_rfl) ⟨by kernel_rfl,by kernel_rfl,trivial⟩ h)

end F49
namespace F50
abbrev E:=En 57
def O (k:Nat):=ob Tryz.f50 (pth k)
abbrev R (i k:Nat):Code:=.region i ⟨O k⟩ false
def ret (P:PT):EP:=retE T0 57 Tryz.f50 P
abbrev k0:Sk:=[]
def B1 (P:PT):Y k0:=fun H=>
  P (bool true) H
abbrev k1:Sk:=[(5,.v),(7,J)]
def o3:=O 979
def B3 (P:PT) (N2:Y k1):Y k1:=fun x5 x7 H=>
  N2 x5 (i64.wrap (x7+1)) H
def B4 (P:PT) (N2:Y k1):Y k0:=fun H=>
  P (bool false) H
def B5 (P:PT) (N2:Y k1):Y k1:=fun x5 x7 H=>
  idxK x5 x7 1 (fun b1 o2=>li H b1 o2 (fun v3=>pif ((Int.tmod v3 2:Int) != 0) (B4 P N2 H) (B3 P N2 x5 x7 H)))
def o6:=O 976
def B6 (P:PT) (N2:Y k1):Y k1:=fun x5 x7 H=>
  lenK x5 (fun n1=>pif (decide ((x7:Int)<(n1:Int))) (B5 P N2 x5 x7 H) (B1 P H))
def L2 (P:PT):Y k1:=fun x5 x7 H=>
  ∃ (I:Y k1) (μ:NTy k1 (AHeap→Nat)),I x5 x7 H∧∀ y5 y7 G,I y5 y7 G→B6 P (fun z5 z7 G'=>I z5 z7 G'∧μ z5 z7 G'<μ y5 y7 G) y5 y7 G
theorem l2 P:LQ k1 (L2 P) (B6 P):=fun ⟨_,_,_⟩ _ ⟨I,μ,h0,hI⟩=>⟨apT _ I,apT _ μ,h0,fun ⟨_,_,_⟩ _ h=>hI _ _ _  h⟩
abbrev k2:Sk:=[(5,.v)]
def B7 (P:PT):Y k2:=fun x5 H=>
  L2 P x5 0 H
abbrev k3:Sk:=[(1,.v),(2,.x),(5,.v),(6,J)]
def o9:=O 467
def B9 (P:PT) (N8:Y k3):Y k3:=fun x1 x2 x5 x6 H=>
  N8 x1 x2 x5 (i64.wrap (x6+1)) H
def o10:=O 1865
def B10 (P:PT) (N8:Y k3):Y k3:=fun x1 x2 x5 x6 H=>
  ld1 H x2 1 (fun v1=>idxK x1 x6 1 (fun b2 o3=>li H b2 o3 (fun v4=>idxK v1 v4 2 (fun b5 o6=>li H b5 (o6+1) (fun v7=>idxK x5 v7 1 (fun b8 o9=>li H b8 o9 (fun v10=>idxK x5 v7 1 (fun b11 o12=>stK H b11 o12 [(I (i64.wrap (v10+1)))] (fun H13=>B9 P N8 x1 x2 x5 x6 H13)))))))))
theorem q10 (P:PT) (N8:Y k3):QD Tryz.prog T0 57 o10 [(0,false),(1,false),(2,false),(3,false),(4,false),(5,false),(6,false),(7,false),(8,false),(9,false),(10,false),(11,false),(12,false),(13,false),(14,false)] (En 57 k3 (B9 P N8)) k3 (B10 P N8):=fun _ _ _ _ _ _  => by kernel_rfl
def o11:=O 1864
def B11 (P:PT) (N8:Y k3):Y k3:=fun x1 x2 x5 x6 H=>
  ld1 H x2 1 (fun v1=>idxK x1 x6 1 (fun b2 o3=>li H b2 o3 (fun v4=>idxK v1 v4 2 (fun b5 o6=>li H b5 o6 (fun v7=>idxK x5 v7 1 (fun b8 o9=>li H b8 o9 (fun v10=>idxK x5 v7 1 (fun b11 o12=>stK H b11 o12 [(I (i64.wrap (v10+1)))] (fun H13=>B10 P N8 x1 x2 x5 x6 H13)))))))))
theorem q11 (P:PT) (N8:Y k3):QD Tryz.prog T0 57 o11 [(0,false),(1,false),(2,false),(3,false),(4,false),(5,false),(6,false),(7,false),(8,false),(9,false),(10,false),(11,false),(12,false),(13,false),(14,false)] (En 57 k3 (B10 P N8)) k3 (B11 P N8):=fun _ _ _ _ _ _  => by kernel_rfl
def o12:=O 464
def B12 (P:PT) (N8:Y k3):Y k3:=fun x1 x2 x5 x6 H=>
  lenK x1 (fun n1=>pif (decide ((x6:Int)<(n1:Int))) (B11 P N8 x1 x2 x5 x6 H) (B7 P x5 H))
def L8 (P:PT):Y k3:=fun x1 x2 x5 x6 H=>
  ∃ (I:Y k3) (μ:NTy k3 (AHeap→Nat)),I x1 x2 x5 x6 H∧∀ y1 y2 y5 y6 G,I y1 y2 y5 y6 G→B12 P (fun z1 z2 z5 z6 G'=>I z1 z2 z5 z6 G'∧μ z1 z2 z5 z6 G'<μ y1 y2 y5 y6 G) y1 y2 y5 y6 G
theorem l8 P:LQ k3 (L8 P) (B12 P):=fun ⟨_,_,_,_,_⟩ _ ⟨I,μ,h0,hI⟩=>⟨apT _ I,apT _ μ,h0,fun ⟨_,_,_,_,_⟩ _ h=>hI _ _ _ _ _  h⟩
abbrev k4:Sk:=[(1,.v),(2,.x),(5,.v)]
def B13 (P:PT):Y k4:=fun x1 x2 x5 H=>
  L8 P x1 x2 x5 0 H
abbrev k5:Sk:=[(1,.v),(2,.x)]
def B14 (P:PT):Y k5:=fun x1 x2 H=>
  li H x2 0 (fun v1=>mkR H 8 2 [(I 0)] v1 v1 (fun v3 H2=>B13 P x1 x2 v3 H2))
abbrev k6:Sk:=[(0,.g [.i,.v]),(1,.v)]
def B15 (P:PT):Y k6:=fun x0a x0b x1 H=>
  newK H [(I x0a),x0b] 26 (fun b1 H2=>B14 P x1 b1 H2)
def code:Code:=(.seq (R 0 2) (.seq (R 1 6) (.seq (.seq (R 2 28) (.block 0 (.loop (.seq (.seq (R 3 464) (.cond (.tmp 14) .skip (.exit 0))) (.seq (.block 1 (.seq (.region 5 ⟨o11⟩ true) (.region 6 ⟨o10⟩ true))) (R 4 467)))))) (.seq (.seq (R 7 60) (.block 2 (.loop (.seq (.seq (R 8 976) (.cond (.tmp 48) .skip (.exit 2))) (.seq (.block 3 (.seq (R 10 3912) (.cond (.tmp 56) (.seq (R 11 15652) .ret) .skip))) (R 9 979)))))) (.seq (R 12 62) .ret)))))
theorem body:Tryz.f50.body=some code:=by kernel_rfl
theorem main P:Z 57 k6 (B15 P) code (ret P):=
  (r_seq (b (E k5 (B14 P))) (r_seq (b (E k4 (B13 P))) (r_seq (r_seq (b (E k3 (L8 P))) (r_block (rL (l8 P) (fun N8=>(r_seq (r_seq (b (cnd 14 (E k3 (B11 P N8)) (E k2 (B7 P)))) (r_cond rfl r_skip (r_exit (fun _ _ h=>h)))) (r_seq (r_block (r_seq (rD T0_ok mixed [(0,false),(1,false),(2,false),(3,false),(4,false),(5,false),(6,false),(7,false),(8,false),(9,false),(10,false),(11,false),(12,false),(13,false),(14,false)] (by kernel_rfl) (q11 P N8)) (rD T0_ok mixed [(0,false),(1,false),(2,false),(3,false),(4,false),(5,false),(6,false),(7,false),(8,false),(9,false),(10,false),(11,false),(12,false),(13,false),(14,false)] (by kernel_rfl) (q10 P N8)))) (b (E k3 N8)))))))) (r_seq (r_seq (b (E k1 (L2 P))) (r_block (rL (l2 P) (fun N2=>(r_seq (r_seq (b (cnd 48 (E k1 (B5 P N2)) (E k0 (B1 P)))) (r_cond rfl r_skip (r_exit (fun _ _ h=>h)))) (r_seq (r_block (r_seq (b (cnd 56 (E k0 (B4 P N2)) (E k1 (B3 P N2)))) (r_cond rfl (r_seq (b (ret P)) r_ret) r_skip))) (b (E k1 N2)))))))) (r_seq (b (ret P)) r_ret)))))
theorem ac (P:PT) (x0a:Int) (x0b x1:Value) (H:AHeap) (h:B15 P x0a x0b x1 H):A 50 [(agg ⟨[(I x0a),x0b]⟩),x1] H P:=
  r_fn T0_ok (c:=code) (n:=57) Tryz.func50 body (by kernel_rfl) (main P) (En_mk (x0a,x0b,x1,()) (by kernel_rfl) ⟨by kernel_rfl,by kernel_rfl,trivial⟩ h)

end F50
namespace F51
abbrev E:=En 89
def O (k:Nat):=ob Tryz.f51 (pth k)
abbrev R (i k:Nat):Code:=.region i ⟨O k⟩ false
def ret (P:PT):EP:=retE T0 89 Tryz.f51 P
abbrev k0:Sk:=[(9,.v)]
def B1 (P:PT):Y k0:=fun x9 H=>
  P x9 H
abbrev k1:Sk:=[(1,.v),(5,.v),(7,.v),(8,.v),(9,.v),(10,J)]
def o3:=O 2003
def B3 (P:PT) (N2:Y k1):Y k1:=fun x1 x5 x7 x8 x9 x10 H=>
  N2 x1 x5 x7 x8 x9 (i64.wrap (x10+1)) H
abbrev k2:Sk:=[(1,.v),(5,.v),(7,.v),(8,.v),(9,.v),(10,J),(11,.v)]
def B4 (P:PT) (N2:Y k1):Y k2:=fun x1 x5 x7 x8 x9 x10 x11 H=>
  pif (Value.oneCell' x11) (newK H [x11] 27 (fun b1 H2=>apK T0 27 H2 x9 (slice (some ⟨b1,0,none⟩) 1 (1+1)) (fun v3 H4=>B3 P N2 x1 x5 x7 x8 v3 x10 H4))) False
abbrev k3:Sk:=[(1,.v),(5,.v),(7,.v),(8,.v),(9,.v),(10,J),(11,.v),(12,J)]
def o6:=O 1025235
def B6 (P:PT) (N2:Y k1) (N5:Y k3):Y k3:=fun x1 x5 x7 x8 x9 x10 x11 x12 H=>
  N5 x1 x5 x7 x8 x9 x10 x11 (i64.wrap (x12+1)) H
def B7 (P:PT) (N2:Y k1) (N5:Y k3):Y k3:=fun x1 x5 x7 x8 x9 x10 x11 x12 H=>
  idxK x1 x12 1 (fun b1 o2=>li H b1 o2 (fun v3=>newK H [(I v3)] 2 (fun b4 H5=>apK T0 2 H5 x11 (slice (some ⟨b4,0,none⟩) 1 (1+1)) (fun v6 H7=>B6 P N2 N5 x1 x5 x7 x8 x9 x10 v6 x12 H7))))
def o8:=O 16403748
def B8 (P:PT) (N2:Y k1) (N5:Y k3):Y k3:=fun x1 x5 x7 x8 x9 x10 x11 x12 H=>
  idxK x8 x12 1 (fun b1 o2=>stK H b1 o2 [(bool true)] (fun H3=>B7 P N2 N5 x1 x5 x7 x8 x9 x10 x11 x12 H3))
def o9:=O 4100936
def B9 (P:PT) (N2:Y k1) (N5:Y k3):Y k3:=fun x1 x5 x7 x8 x9 x10 x11 x12 H=>
  idxK x5 x12 2 (fun b1 o2=>li H b1 o2 (fun v3=>idxK x7 v3 1 (fun b4 o5=>li H b4 o5 (fun v6=>idxK x5 x10 2 (fun b7 o8=>li H b7 o8 (fun v9=>idxK x7 v9 1 (fun b10 o11=>li H b10 o11 (fun v12=>pif ((v6:Int)==v12) (B8 P N2 N5 x1 x5 x7 x8 x9 x10 x11 x12 H) (B6 P N2 N5 x1 x5 x7 x8 x9 x10 x11 x12 H)))))))))
theorem q9 (P:PT) (N2:Y k1) (N5:Y k3):QD Tryz.prog T0 89 o9 [(0,false),(1,false),(2,false),(3,false),(4,false),(5,false),(6,false),(7,false),(8,false),(9,false),(10,false),(11,false),(12,false),(13,false),(14,false),(15,false),(16,false)] (cnd 73 (En 89 k3 (B8 P N2 N5)) (En 89 k3 (B6 P N2 N5))) k3 (B9 P N2 N5):=fun _ _ _ _ _ _ _ _ _ _  => by kernel_rfl
def B10 (P:PT) (N2:Y k1) (N5:Y k3):Y k3:=fun x1 x5 x7 x8 x9 x10 x11 x12 H=>
  lenK x1 (fun n1=>pif (decide ((x12:Int)<(n1:Int))) (B9 P N2 N5 x1 x5 x7 x8 x9 x10 x11 x12 H) (B4 P N2 x1 x5 x7 x8 x9 x10 x11 H))
def L5 (P:PT) (N2:Y k1):Y k3:=fun x1 x5 x7 x8 x9 x10 x11 x12 H=>
  ∃ (I:Y k3) (μ:NTy k3 (AHeap→Nat)),I x1 x5 x7 x8 x9 x10 x11 x12 H∧∀ y1 y5 y7 y8 y9 y10 y11 y12 G,I y1 y5 y7 y8 y9 y10 y11 y12 G→B10 P N2 (fun z1 z5 z7 z8 z9 z10 z11 z12 G'=>I z1 z5 z7 z8 z9 z10 z11 z12 G'∧μ z1 z5 z7 z8 z9 z10 z11 z12 G'<μ y1 y5 y7 y8 y9 y10 y11 y12 G) y1 y5 y7 y8 y9 y10 y11 y12 G
theorem l5 P N2:LQ k3 (L5 P N2) (B10 P N2):=fun ⟨_,_,_,_,_,_,_,_,_⟩ _ ⟨I,μ,h0,hI⟩=>⟨apT _ I,apT _ μ,h0,fun ⟨_,_,_,_,_,_,_,_,_⟩ _ h=>hI _ _ _ _ _ _ _ _ _  h⟩
def o11:=O 64076
def B11 (P:PT) (N2:Y k1):Y k2:=fun x1 x5 x7 x8 x9 x10 x11 H=>
  L5 P N2 x1 x5 x7 x8 x9 x10 x11 x10 H
def B12 (P:PT) (N2:Y k1):Y k1:=fun x1 x5 x7 x8 x9 x10 H=>
  newK H [] 2 (fun b1 H2=>B11 P N2 x1 x5 x7 x8 x9 x10 (slice (some ⟨b1,0,none⟩) 0 (0+1)) H2)
def B13 (P:PT) (N2:Y k1):Y k1:=fun x1 x5 x7 x8 x9 x10 H=>
  idxK x8 x10 1 (fun b1 o2=>ld1 H b1 o2 (fun v4=>asB v4 (fun v3=>pif v3 (B3 P N2 x1 x5 x7 x8 x9 x10 H) (B12 P N2 x1 x5 x7 x8 x9 x10 H))))
def B14 (P:PT) (N2:Y k1):Y k1:=fun x1 x5 x7 x8 x9 x10 H=>
  lenK x1 (fun n1=>pif (decide ((x10:Int)<(n1:Int))) (B13 P N2 x1 x5 x7 x8 x9 x10 H) (B1 P x9 H))
def L2 (P:PT):Y k1:=fun x1 x5 x7 x8 x9 x10 H=>
  ∃ (I:Y k1) (μ:NTy k1 (AHeap→Nat)),I x1 x5 x7 x8 x9 x10 H∧∀ y1 y5 y7 y8 y9 y10 G,I y1 y5 y7 y8 y9 y10 G→B14 P (fun z1 z5 z7 z8 z9 z10 G'=>I z1 z5 z7 z8 z9 z10 G'∧μ z1 z5 z7 z8 z9 z10 G'<μ y1 y5 y7 y8 y9 y10 G) y1 y5 y7 y8 y9 y10 G
theorem l2 P:LQ k1 (L2 P) (B14 P):=fun ⟨_,_,_,_,_,_,_⟩ _ ⟨I,μ,h0,hI⟩=>⟨apT _ I,apT _ μ,h0,fun ⟨_,_,_,_,_,_,_⟩ _ h=>hI _ _ _ _ _ _ _  h⟩
abbrev k4:Sk:=[(1,.v),(5,.v),(7,.v),(8,.v),(9,.v)]
def B15 (P:PT):Y k4:=fun x1 x5 x7 x8 x9 H=>
  L2 P x1 x5 x7 x8 x9 0 H
abbrev k5:Sk:=[(1,.v),(2,.x),(5,.v)]
def o16:=O 30
def B16 (P:PT):Y k5:=fun x1 x2 x5 H=>
  li H x2 0 (fun v1=>lenK x1 (fun n2=>(A 112 [(I v1),x5] H (fun v3 H4=>(mkR H4 1 4 [(bool false)] (n2:Int) (n2:Int) (fun v7 H6=>newK H6 [] 27 (fun b8 H9=>B15 P x1 x5 v3 v7 (slice (some ⟨b8,0,none⟩) 0 (0+1)) H9)))∧(newK H4 [] 27 (fun b10 H11=>mkR H11 1 4 [(bool false)] (n2:Int) (n2:Int) (fun v13 H12=>B15 P x1 x5 v3 v13 (slice (some ⟨b10,0,none⟩) 0 (0+1)) H12)))))∧((mkR H 1 4 [(bool false)] (n2:Int) (n2:Int) (fun v15 H14=>(A 112 [(I v1),x5] H14 (fun v16 H17=>newK H17 [] 27 (fun b19 H20=>B15 P x1 x5 v16 v15 (slice (some ⟨b19,0,none⟩) 0 (0+1)) H20)))∧(newK H14 [] 27 (fun b21 H22=>A 112 [(I v1),x5] H22 (fun v23 H24=>B15 P x1 x5 v23 v15 (slice (some ⟨b21,0,none⟩) 0 (0+1)) H24)))))∧(newK H [] 27 (fun b26 H27=>(A 112 [(I v1),x5] H27 (fun v28 H29=>mkR H29 1 4 [(bool false)] (n2:Int) (n2:Int) (fun v32 H31=>B15 P x1 x5 v28 v32 (slice (some ⟨b26,0,none⟩) 0 (0+1)) H31)))∧(mkR H27 1 4 [(bool false)] (n2:Int) (n2:Int) (fun v34 H33=>A 112 [(I v1),x5] H33 (fun v35 H36=>B15 P x1 x5 v35 v34 (slice (some ⟨b26,0,none⟩) 0 (0+1)) H36))))))))
theorem q16 (P:PT):QT Tryz.prog T0 89 o16 (.op 0 [] (.op 1 [] (.op 2 [] (.op 4 [] (.op 5 [] (.alt (.op 3 [] (.op 8 [] (.alt (.op 6 [] (.op 9 [] (.op 7 [] (.op 10 [] .done)))) (.op 7 [] (.op 6 [] (.op 9 [] (.op 10 [] .done))))))) (.alt (.op 6 [] (.alt (.op 3 [] (.op 8 [] (.op 9 [] (.op 7 [] (.op 10 [] .done))))) (.op 7 [] (.op 3 [] (.op 8 [] (.op 9 [] (.op 10 [] .done))))))) (.op 7 [] (.alt (.op 3 [] (.op 8 [] (.op 6 [] (.op 9 [] (.op 10 [] .done))))) (.op 6 [] (.op 3 [] (.op 8 [] (.op 9 [] (.op 10 [] .done)))))))))))))) (En 89 k4 (B15 P)) k5 (B16 P):=fun _ _ _ _ _  => by kernel_rfl
abbrev k6:Sk:=[(1,.v),(2,.x),(5,.v),(6,J)]
def B18 (P:PT) (N17:Y k6):Y k6:=fun x1 x2 x5 x6 H=>
  N17 x1 x2 x5 (i64.wrap (x6+1)) H
def o19:=O 932
def B19 (P:PT) (N17:Y k6):Y k6:=fun x1 x2 x5 x6 H=>
  ld1 H x2 1 (fun v1=>idxK x1 x6 1 (fun b2 o3=>li H b2 o3 (fun v4=>idxK v1 v4 2 (fun b5 o6=>li H b5 o6 (fun v7=>li H b5 (o6+1) (fun v8=>newK H [(I v7),(I v8)] 66 (fun b9 H10=>apK T0 66 H10 x5 (slice (some ⟨b9,0,none⟩) 1 (1+1)) (fun v11 H12=>B18 P N17 x1 x2 v11 x6 H12))))))))
theorem q19 (P:PT) (N17:Y k6):QD Tryz.prog T0 89 o19 [(0,false),(1,false),(2,false),(3,false),(4,false),(5,false),(6,false),(7,false),(8,false),(9,false),(10,false),(11,false)] (En 89 k6 (B18 P N17)) k6 (B19 P N17):=fun _ _ _ _ _ _  => by kernel_rfl
def B20 (P:PT) (N17:Y k6):Y k6:=fun x1 x2 x5 x6 H=>
  lenK x1 (fun n1=>pif (decide ((x6:Int)<(n1:Int))) (B19 P N17 x1 x2 x5 x6 H) (B16 P x1 x2 x5 H))
def L17 (P:PT):Y k6:=fun x1 x2 x5 x6 H=>
  ∃ (I:Y k6) (μ:NTy k6 (AHeap→Nat)),I x1 x2 x5 x6 H∧∀ y1 y2 y5 y6 G,I y1 y2 y5 y6 G→B20 P (fun z1 z2 z5 z6 G'=>I z1 z2 z5 z6 G'∧μ z1 z2 z5 z6 G'<μ y1 y2 y5 y6 G) y1 y2 y5 y6 G
theorem l17 P:LQ k6 (L17 P) (B20 P):=fun ⟨_,_,_,_,_⟩ _ ⟨I,μ,h0,hI⟩=>⟨apT _ I,apT _ μ,h0,fun ⟨_,_,_,_,_⟩ _ h=>hI _ _ _ _ _  h⟩
def B21 (P:PT):Y k5:=fun x1 x2 x5 H=>
  L17 P x1 x2 x5 0 H
abbrev k7:Sk:=[(1,.v),(2,.x)]
def B22 (P:PT):Y k7:=fun x1 x2 H=>
  newK H [] 66 (fun b1 H2=>B21 P x1 x2 (slice (some ⟨b1,0,none⟩) 0 (0+1)) H2)
abbrev k8:Sk:=[(0,.g [.i,.v]),(1,.v)]
def B23 (P:PT):Y k8:=fun x0a x0b x1 H=>
  newK H [(I x0a),x0b] 26 (fun b1 H2=>B22 P x1 b1 H2)
def code:Code:=(.seq (R 0 2) (.seq (R 1 6) (.seq (.seq (R 2 28) (.block 0 (.loop (.seq (.seq (R 3 464) (.cond (.tmp 17) .skip (.exit 0))) (.seq (.block 1 (.region 5 ⟨o19⟩ true)) (R 4 467)))))) (.seq (.region 6 ⟨o16⟩ true) (.seq (.seq (R 7 124) (.block 2 (.loop (.seq (.seq (R 8 2000) (.cond (.tmp 42) .skip (.exit 2))) (.seq (.block 3 (.seq (.seq (R 10 16016) (.cond (.tmp 48) (.exit 3) .skip)) (.seq (R 11 16018) (.seq (.seq (R 12 64076) (.block 4 (.loop (.seq (.seq (R 13 1025232) (.cond (.tmp 54) .skip (.exit 4))) (.seq (.block 5 (.seq (.region 15 ⟨o9⟩ true) (.cond (.tmp 73) (.seq (R 16 16403748) (R 17 16403749)) .skip))) (R 14 1025235)))))) (R 18 32039))))) (R 9 2003)))))) (.seq (R 19 126) .ret))))))
theorem body:Tryz.f51.body=some code:=by kernel_rfl
theorem main P:Z 89 k8 (B23 P) code (ret P):=
  (r_seq (b (E k7 (B22 P))) (r_seq (b (E k5 (B21 P))) (r_seq (r_seq (b (E k6 (L17 P))) (r_block (rL (l17 P) (fun N17=>(r_seq (r_seq (b (cnd 17 (E k6 (B19 P N17)) (E k5 (B16 P)))) (r_cond rfl r_skip (r_exit (fun _ _ h=>h)))) (r_seq (r_block (rD T0_ok mixed [(0,false),(1,false),(2,false),(3,false),(4,false),(5,false),(6,false),(7,false),(8,false),(9,false),(10,false),(11,false)] (by kernel_rfl) (q19 P N17))) (b (E k6 N17)))))))) (r_seq (rT T0_ok mixed (.op 0 [] (.op 1 [] (.op 2 [] (.op 4 [] (.op 5 [] (.alt (.op 3 [] (.op 8 [] (.alt (.op 6 [] (.op 9 [] (.op 7 [] (.op 10 [] .done)))) (.op 7 [] (.op 6 [] (.op 9 [] (.op 10 [] .done))))))) (.alt (.op 6 [] (.alt (.op 3 [] (.op 8 [] (.op 9 [] (.op 7 [] (.op 10 [] .done))))) (.op 7 [] (.op 3 [] (.op 8 [] (.op 9 [] (.op 10 [] .done))))))) (.op 7 [] (.alt (.op 3 [] (.op 8 [] (.op 6 [] (.op 9 [] (.op 10 [] .done))))) (.op 6 [] (.op 3 [] (.op 8 [] (.op 9 [] (.op 10 [] .done)))))))))))))) (by kernel_rfl) (q16 P)) (r_seq (r_seq (b (E k1 (L2 P))) (r_block (rL (l2 P) (fun N2=>(r_seq (r_seq (b (cnd 42 (E k1 (B13 P N2)) (E k0 (B1 P)))) (r_cond rfl r_skip (r_exit (fun _ _ h=>h)))) (r_seq (r_block (r_seq (r_seq (b (cnd 48 (E k1 (B3 P N2)) (E k1 (B12 P N2)))) (r_cond rfl (r_exit (fun _ _ h=>h)) r_skip)) (r_seq (b (E k2 (B11 P N2))) (r_seq (r_seq (b (E k3 (L5 P N2))) (r_block (rL (l5 P N2) (fun N5=>(r_seq (r_seq (b (cnd 54 (E k3 (B9 P N2 N5)) (E k2 (B4 P N2)))) (r_cond rfl r_skip (r_exit (fun _ _ h=>h)))) (r_seq (r_block (r_seq (rD T0_ok mixed [(0,false),(1,false),(2,false),(3,false),(4,false),(5,false),(6,false),(7,false),(8,false),(9,false),(10,false),(11,false),(12,false),(13,false),(14,false),(15,false),(16,false)] (by kernel_rfl) (q9 P N2 N5)) (r_cond rfl (r_seq (b (E k3 (B7 P N2 N5))) (b (E k3 (B6 P N2 N5)))) r_skip))) (b (E k3 N5)))))))) (b (E k1 (B3 P N2))))))) (b (E k1 N2)))))))) (r_seq (b (ret P)) r_ret))))))
theorem ac (P:PT) (x0a:Int) (x0b x1:Value) (H:AHeap) (h:B23 P x0a x0b x1 H):A 51 [(agg ⟨[(I x0a),x0b]⟩),x1] H P:=
  r_fn T0_ok (c:=code) (n:=89) Tryz.func51 body (by kernel_rfl) (main P) (En_mk (x0a,x0b,x1,()) (by kernel_rfl) ⟨by kernel_rfl,by kernel_rfl,trivial⟩ h)

end F51
namespace F52
abbrev E:=En 15
def O (k:Nat):=ob Tryz.f52 (pth k)
abbrev R (i k:Nat):Code:=.region i ⟨O k⟩ false
def ret (P:PT):EP:=retE T0 15 Tryz.f52 P
abbrev k0:Sk:=[(1,.i .u64),(2,.x)]
def B1 (P:PT):Y k0:=fun x1 x2 H=>
  li H x2 0 (fun v1=>ld1 H x2 1 (fun v2=>A 45 [(agg ⟨[(I v1),v2]⟩),(int .u64 x1)] H (fun v3 H4=>asB v3 (fun v5=>pif v5 (li H4 x2 0 (fun v6=>ld1 H4 x2 1 (fun v7=>A 48 [(agg ⟨[(I v6),v7]⟩),(int .u64 x1)] H4 (fun v8 H9=>lenK v8 (fun n11=>P (bool (((n11:Int):Int)==1)) H9))))) (P (bool false) H4)))))
abbrev k1:Sk:=[(0,.g [.i,.v]),(1,.i .u64)]
def B2 (P:PT):Y k1:=fun x0a x0b x1 H=>
  newK H [(I x0a),x0b] 26 (fun b1 H2=>B1 P x1 b1 H2)
def code:Code:=(.seq (R 0 2) (.seq (R 1 6) .ret))
theorem body:Tryz.f52.body=some code:=by kernel_rfl
theorem main P:Z 15 k1 (B2 P) code (ret P):=
  (r_seq (b (E k0 (B1 P))) (r_seq (b (ret P)) r_ret))
theorem ac (P:PT) (x0a:Int) (x0b:Value) (x1:Int) (H:AHeap) (h:B2 P x0a x0b x1 H):A 52 [(agg ⟨[(I x0a),x0b]⟩),(int .u64 x1)] H P:=
  r_fn T0_ok (c:=code) (n:=15) Tryz.func52 body (by kernel_rfl) (main P) (En_mk (x0a,x0b,x1,()) (by kernel_rfl) ⟨by kernel_rfl,by kernel_rfl,trivial⟩ h)

end F52
namespace F53
abbrev E:=En 12
def O (k:Nat):=ob Tryz.f53 (pth k)
abbrev R (i k:Nat):Code:=.region i ⟨O k⟩ false
def ret (P:PT):EP:=retE T0 12 Tryz.f53 P
abbrev k0:Sk:=[]
def B1 (P:PT):Y k0:=fun H=>
  P (I 0) H
def B2 (P:PT):Y k0:=fun H=>
  P (I 1) H
def B3 (P:PT):Y k0:=fun H=>
  P (I 2) H
abbrev k1:Sk:=[(1,.b)]
def B4 (P:PT):Y k1:=fun x1 H=>
  pif (!x1) (B3 P H) (B1 P H)
abbrev k2:Sk:=[(1,.b),(2,.x)]
def B5 (P:PT):Y k2:=fun x1 x2 H=>
  li H x2 0 (fun v1=>ld1 H x2 1 (fun v2=>A 113 [(agg ⟨[(I v1),v2]⟩)] H (fun v3 H4=>asB v3 (fun v5=>pif (!v5) (B2 P H4) (B4 P x1 H4)))))
abbrev k3:Sk:=[(0,.g [.i,.v]),(1,.b)]
def B6 (P:PT):Y k3:=fun x0a x0b x1 H=>
  newK H [(I x0a),x0b] 26 (fun b1 H2=>B5 P x1 b1 H2)
def code:Code:=(.seq (R 0 2) (.seq (.block 0 (.seq (R 1 24) (.cond (.tmp 5) (.seq (R 2 100) .ret) (.seq (R 3 102) (.cond (.tmp 9) (.seq (R 4 412) .ret) .skip))))) (.seq (R 5 14) .ret)))
theorem body:Tryz.f53.body=some code:=by kernel_rfl
theorem main P:Z 12 k3 (B6 P) code (ret P):=
  (r_seq (b (E k2 (B5 P))) (r_seq (r_block (r_seq (b (cnd 5 (E k0 (B2 P)) (E k1 (B4 P)))) (r_cond rfl (r_seq (b (ret P)) r_ret) (r_seq (b (cnd 9 (E k0 (B3 P)) (E k0 (B1 P)))) (r_cond rfl (r_seq (b (ret P)) r_ret) r_skip))))) (r_seq (b (ret P)) r_ret)))
theorem ac (P:PT) (x0a:Int) (x0b:Value) (x1:Bool) (H:AHeap) (h:B6 P x0a x0b x1 H):A 53 [(agg ⟨[(I x0a),x0b]⟩),(bool x1)] H P:=
  r_fn T0_ok (c:=code) (n:=12) Tryz.func53 body (by kernel_rfl) (main P) (En_mk (x0a,x0b,x1,()) (by kernel_rfl) ⟨by kernel_rfl,by kernel_rfl,trivial⟩ h)

end F53
namespace F54
abbrev E:=En 33
def O (k:Nat):=ob Tryz.f54 (pth k)
abbrev R (i k:Nat):Code:=.region i ⟨O k⟩ false
def ret (P:PT):EP:=retE T0 33 Tryz.f54 P
abbrev k0:Sk:=[]
def B1 (P:PT):Y k0:=fun H=>
  P (bool true) H
abbrev k1:Sk:=[(0,.v),(1,J),(7,.v),(8,J),(9,J)]
def B3 (P:PT) (N2:Y k1):Y k1:=fun x0 x1 x7 x8 x9 H=>
  N2 x0 x1 x7 x8 (i64.wrap (x9+1)) H
def B4 (P:PT) (N2:Y k1):Y k0:=fun H=>
  P (bool false) H
abbrev k2:Sk:=[(0,.v),(1,J),(5,J),(6,J),(7,.v),(8,J),(9,J)]
def o5:=O 3378
def B5 (P:PT) (N2:Y k1):Y k2:=fun x0 x1 x5 x6 x7 x8 x9 H=>
  A 91 [(I x6),(I 0),(I (i64.wrap (x1-1)))] H (fun v1 H2=>asB v1 (fun v3=>pif (!v3) (B4 P N2 H2) (pif (decide ((x5:Int)>0)) (idxK x0 (i64.wrap (x5-1)) 1 (fun b4 o5=>li H2 b4 o5 (fun v6=>pif (decide ((x6:Int)≤v6)) (B4 P N2 H2) (B3 P N2 x0 x1 x7 x8 x9 H2)))) (B3 P N2 x0 x1 x7 x8 x9 H2))))
def B6 (P:PT) (N2:Y k1):Y k1:=fun x0 x1 x7 x8 x9 H=>
  idxK x7 x9 1 (fun b1 o2=>li H b1 o2 (fun v3=>B5 P N2 x0 x1 x9 v3 x7 x8 x9 H))
def B7 (P:PT) (N2:Y k1):Y k1:=fun x0 x1 x7 x8 x9 H=>
  pif (decide ((x9:Int)<x8)) (B6 P N2 x0 x1 x7 x8 x9 H) (B1 P H)
def L2 (P:PT):Y k1:=fun x0 x1 x7 x8 x9 H=>
  ∃ (I:Y k1) (μ:NTy k1 (AHeap→Nat)),I x0 x1 x7 x8 x9 H∧∀ y0 y1 y7 y8 y9 G,I y0 y1 y7 y8 y9 G→B7 P (fun z0 z1 z7 z8 z9 G'=>I z0 z1 z7 z8 z9 G'∧μ z0 z1 z7 z8 z9 G'<μ y0 y1 y7 y8 y9 G) y0 y1 y7 y8 y9 G
theorem l2 P:LQ k1 (L2 P) (B7 P):=fun ⟨_,_,_,_,_,_⟩ _ ⟨I,μ,h0,hI⟩=>⟨apT _ I,apT _ μ,h0,fun ⟨_,_,_,_,_,_⟩ _ h=>hI _ _ _ _ _ _  h⟩
abbrev k3:Sk:=[(0,.v),(1,J)]
def B8 (P:PT):Y k3:=fun x0 x1 H=>
  lenK x0 (fun n1=>L2 P x0 x1 x0 (n1:Int) 0 H)
def B9 (P:PT):Y k3:=fun x0 x1 H=>
  B8 P x0 x1 H
def code:Code:=(.seq (R 0 2) (.seq (.seq (R 1 12) (.block 0 (.loop (.seq (R 2 104) (.seq (.cond (.tmp 10) .skip (.exit 0)) (.seq (.block 1 (.seq (R 3 1688) (.seq (R 4 3378) (.cond (.tmp 31) (.seq (R 5 13516) .ret) .skip)))) (R 6 423))))))) (.seq (R 7 14) .ret)))
theorem body:Tryz.f54.body=some code:=by kernel_rfl
theorem main P:Z 33 k3 (B9 P) code (ret P):=
  (r_seq (b (E k3 (B8 P))) (r_seq (r_seq (b (E k1 (L2 P))) (r_block (rL (l2 P) (fun N2=>(r_seq (b (cnd 10 (E k1 (B6 P N2)) (E k0 (B1 P)))) (r_seq (r_cond rfl r_skip (r_exit (fun _ _ h=>h))) (r_seq (r_block (r_seq (b (E k2 (B5 P N2))) (r_seq (b (cnd 31 (E k0 (B4 P N2)) (E k1 (B3 P N2)))) (r_cond rfl (r_seq (b (ret P)) r_ret) r_skip)))) (b (E k1 N2))))))))) (r_seq (b (ret P)) r_ret)))
theorem ac (P:PT) (x0:Value) (x1:Int) (H:AHeap) (h:B9 P x0 x1 H):A 54 [x0,(I x1)] H P:=
  r_fn T0_ok (c:=code) (n:=33) Tryz.func54 body (by kernel_rfl) (main P) (En_mk (x0,x1,()) (by kernel_rfl) ⟨by kernel_rfl,by kernel_rfl,trivial⟩ h)

end F54
namespace F55
abbrev E:=En 5
def O (k:Nat):=ob Tryz.f55 (pth k)
abbrev R (i k:Nat):Code:=.region i ⟨O k⟩ false
def ret (P:PT):EP:=retE T0 5 Tryz.f55 P
abbrev k0:Sk:=[(0,.v)]
def B1 (P:PT):Y k0:=fun x0 H=>
  lenK x0 (fun n1=>P (I (n1:Int)) H)
def B2 (P:PT):Y k0:=fun x0 H=>
  B1 P x0 H
def code:Code:=(.seq (R 0 2) (.seq (R 1 6) .ret))
theorem body:Tryz.f55.body=some code:=by kernel_rfl
theorem main P:Z 5 k0 (B2 P) code (ret P):=
  (r_seq (b (E k0 (B1 P))) (r_seq (b (ret P)) r_ret))
theorem ac (P:PT) (x0:Value) (H:AHeap) (h:B2 P x0 H):A 55 [x0] H P:=
  r_fn T0_ok (c:=code) (n:=5) Tryz.func55 body (by kernel_rfl) (main P) (En_mk (x0,()) (by kernel_rfl) ⟨by kernel_rfl,trivial⟩ h)

end F55
namespace F56
abbrev E:=En 19
def O (k:Nat):=ob Tryz.f56 (pth k)
abbrev R (i k:Nat):Code:=.region i ⟨O k⟩ false
def ret (P:PT):EP:=retE T0 19 Tryz.f56 P
abbrev k0:Sk:=[(3,.v)]
def B1 (P:PT):Y k0:=fun x3 H=>
  P x3 H
abbrev k1:Sk:=[(0,.i .u64),(3,.v),(4,J)]
def B3 (P:PT) (N2:Y k1):Y k1:=fun x0 x3 x4 H=>
  N2 x0 x3 (i64.wrap (x4+1)) H
def B4 (P:PT) (N2:Y k1):Y k1:=fun x0 x3 x4 H=>
  newK H [(I x4)] 2 (fun b1 H2=>apK T0 2 H2 x3 (slice (some ⟨b1,0,none⟩) 1 (1+1)) (fun v3 H4=>B3 P N2 x0 v3 x4 H4))
def B5 (P:PT) (N2:Y k1):Y k1:=fun x0 x3 x4 H=>
  A 110 [(int .u64 x0),(I x4)] H (fun v1 H2=>asB v1 (fun v3=>pif v3 (B4 P N2 x0 x3 x4 H2) (B3 P N2 x0 x3 x4 H2)))
def B6 (P:PT) (N2:Y k1):Y k1:=fun x0 x3 x4 H=>
  ((0:Int)≤x4)∧(pif ((Int.fdiv x0 (2^(min (Int.toNat x4) 64)):Int) != 0) (B5 P N2 x0 x3 x4 H) (B1 P x3 H))
def L2 (P:PT):Y k1:=fun x0 x3 x4 H=>
  ∃ (I:Y k1) (μ:NTy k1 (AHeap→Nat)),I x0 x3 x4 H∧∀ y0 y3 y4 G,I y0 y3 y4 G→B6 P (fun z0 z3 z4 G'=>I z0 z3 z4 G'∧μ z0 z3 z4 G'<μ y0 y3 y4 G) y0 y3 y4 G
theorem l2 P:LQ k1 (L2 P) (B6 P):=fun ⟨_,_,_,_⟩ _ ⟨I,μ,h0,hI⟩=>⟨apT _ I,apT _ μ,h0,fun ⟨_,_,_,_⟩ _ h=>hI _ _ _ _  h⟩
abbrev k2:Sk:=[(0,.i .u64),(3,.v)]
def B7 (P:PT):Y k2:=fun x0 x3 H=>
  L2 P x0 x3 0 H
abbrev k3:Sk:=[(0,.i .u64)]
def B8 (P:PT):Y k3:=fun x0 H=>
  B7 P x0 (slice none 0 0) H
def B9 (P:PT):Y k3:=fun x0 H=>
  B8 P x0 H
def code:Code:=(.seq (R 0 2) (.seq (R 1 6) (.seq (.seq (R 2 28) (.block 0 (.loop (.seq (.seq (R 3 464) (.cond (.tmp 8) .skip (.exit 0))) (.seq (.block 1 (.seq (R 5 1864) (.cond (.tmp 13) (R 6 3730) .skip))) (R 4 467)))))) (.seq (R 7 30) .ret))))
theorem body:Tryz.f56.body=some code:=by kernel_rfl
theorem main P:Z 19 k3 (B9 P) code (ret P):=
  (r_seq (b (E k3 (B8 P))) (r_seq (b (E k2 (B7 P))) (r_seq (r_seq (b (E k1 (L2 P))) (r_block (rL (l2 P) (fun N2=>(r_seq (r_seq (b (cnd 8 (E k1 (B5 P N2)) (E k0 (B1 P)))) (r_cond rfl r_skip (r_exit (fun _ _ h=>h)))) (r_seq (r_block (r_seq (b (cnd 13 (E k1 (B4 P N2)) (E k1 (B3 P N2)))) (r_cond rfl (b (E k1 (B3 P N2))) r_skip))) (b (E k1 N2)))))))) (r_seq (b (ret P)) r_ret))))
theorem ac (P:PT) (x0:Int) (H:AHeap) (h:B9 P x0 H):A 56 [(int .u64 x0)] H P:=
  r_fn T0_ok (c:=code) (n:=19) Tryz.func56 body (by kernel_rfl) (main P) (En_mk (x0,()) (by kernel_rfl) ⟨by kernel_rfl,trivial⟩ h)

end F56
namespace F57
abbrev E:=En 38
def O (k:Nat):=ob Tryz.f57 (pth k)
abbrev R (i k:Nat):Code:=.region i ⟨O k⟩ false
def ret (P:PT):EP:=retE T0 38 Tryz.f57 P
abbrev k0:Sk:=[(3,.v)]
def B1 (P:PT):Y k0:=fun x3 H=>
  P x3 H
abbrev k1:Sk:=[(0,.v),(3,.v),(4,J)]
def o3:=O 467
def B3 (P:PT) (N2:Y k1):Y k1:=fun x0 x3 x4 H=>
  N2 x0 x3 (i64.wrap (x4+1)) H
def o4:=O 932
def B4 (P:PT) (N2:Y k1):Y k1:=fun x0 x3 x4 H=>
  nilK x3 (fun v1=>asP v1 (fun b2 o3=>ldI .u64 H b2 (o3+2) (fun v4=>idxK x0 x4 1 (fun b5 o6=>ldI .u8 H b5 o6 (fun v7=>nilK x3 (fun v8=>asP v8 (fun b9 o10=>stK H b9 (o10+2) [(int .u64 (u64.wrap ((u64.wrap ((u64.wrap (v4*1099511628211))+(u64.wrap v7)))+151)))] (fun H11=>B3 P N2 x0 x3 x4 H11))))))))
theorem q4 (P:PT) (N2:Y k1):QD Tryz.prog T0 38 o4 [(0,false),(1,false),(2,false),(3,false),(4,false),(5,false),(6,false),(7,false),(8,false),(9,false),(10,false),(11,false),(12,false),(13,false),(14,false),(15,false)] (En 38 k1 (B3 P N2)) k1 (B4 P N2):=fun _ _ _ _ _  => by kernel_rfl
def B5 (P:PT) (N2:Y k1):Y k1:=fun x0 x3 x4 H=>
  lenK x0 (fun n1=>pif (decide ((x4:Int)<(n1:Int))) (pif (decide ((x4:Int)<4096)) (B4 P N2 x0 x3 x4 H) (B1 P x3 H)) (B1 P x3 H))
def L2 (P:PT):Y k1:=fun x0 x3 x4 H=>
  ∃ (I:Y k1) (μ:NTy k1 (AHeap→Nat)),I x0 x3 x4 H∧∀ y0 y3 y4 G,I y0 y3 y4 G→B5 P (fun z0 z3 z4 G'=>I z0 z3 z4 G'∧μ z0 z3 z4 G'<μ y0 y3 y4 G) y0 y3 y4 G
theorem l2 P:LQ k1 (L2 P) (B5 P):=fun ⟨_,_,_,_⟩ _ ⟨I,μ,h0,hI⟩=>⟨apT _ I,apT _ μ,h0,fun ⟨_,_,_,_⟩ _ h=>hI _ _ _ _  h⟩
abbrev k2:Sk:=[(0,.v),(3,.v)]
def o6:=O 28
def B6 (P:PT):Y k2:=fun x0 x3 H=>
  L2 P x0 x3 0 H
abbrev k3:Sk:=[(0,.v)]
def B7 (P:PT):Y k3:=fun x0 H=>
  lenK x0 (fun n1=>pif (Value.oneCell' x0) (newK H [x0,(I 0),(int .u64 (u64.wrap (13291+(u64.wrap (n1:Int)))))] 121 (fun b2 H3=>B6 P x0 (pointer (some ⟨b2,0,none⟩)) H3)) False)
def B8 (P:PT):Y k3:=fun x0 H=>
  B7 P x0 H
def code:Code:=(.seq (R 0 2) (.seq (R 1 6) (.seq (.seq (R 2 28) (.block 0 (.loop (.seq (.seq (R 3 464) (.cond (.tmp 19) .skip (.exit 0))) (.seq (.block 1 (.region 5 ⟨o4⟩ true)) (R 4 467)))))) (.seq (R 6 30) .ret))))
theorem body:Tryz.f57.body=some code:=by kernel_rfl
theorem main P:Z 38 k3 (B8 P) code (ret P):=
  (r_seq (b (E k3 (B7 P))) (r_seq (b (E k2 (B6 P))) (r_seq (r_seq (b (E k1 (L2 P))) (r_block (rL (l2 P) (fun N2=>(r_seq (r_seq (b (cnd 19 (E k1 (B4 P N2)) (E k0 (B1 P)))) (r_cond rfl r_skip (r_exit (fun _ _ h=>h)))) (r_seq (r_block (rD T0_ok mixed [(0,false),(1,false),(2,false),(3,false),(4,false),(5,false),(6,false),(7,false),(8,false),(9,false),(10,false),(11,false),(12,false),(13,false),(14,false),(15,false)] (by kernel_rfl) (q4 P N2))) (b (E k1 N2)))))))) (r_seq (b (ret P)) r_ret))))
theorem ac (P:PT) (x0:Value) (H:AHeap) (h:B8 P x0 H):A 57 [x0] H P:=
  r_fn T0_ok (c:=code) (n:=38) Tryz.func57 body (by kernel_rfl) (main P) (En_mk (x0,()) (by kernel_rfl) ⟨by kernel_rfl,trivial⟩ h)

end F57
namespace F58
abbrev E:=En 40
def O (k:Nat):=ob Tryz.f58 (pth k)
abbrev R (i k:Nat):Code:=.region i ⟨O k⟩ false
def ret (P:PT):EP:=retE T0 40 Tryz.f58 P
abbrev k0:Sk:=[(0,.v),(2,.x)]
def B1 (P:PT):Y k0:=fun x0 x2 H=>
  newK H [(I 2),(I 4),(I 6),(I 8),(I 10),(I 12),(I 14),(I 20)] 2 (fun b1 H2=>A 78 [x0,(slice (some ⟨b1,0,none⟩) 8 (8+1))] H2 (fun v3 H4=>asI .i64 v3 (fun v5=>A 104 [x0,(I v5)] H4 (fun v6 H7=>agg2 v6 (fun v8 v9=>asI .i64 v8 (fun v10=>stK H7 x2 0 [(I v10),v9] (fun H12=>li H12 x2 0 (fun v13=>ld1 H12 x2 1 (fun v14=>P (agg ⟨[(I v13),v14]⟩) H12)))))))))
def B2 (P:PT):Y k0:=fun x0 x2 H=>
  A 65 [x0] H (fun v1 H2=>agg2 v1 (fun v3 v4=>asI .i64 v3 (fun v5=>A 65 [x0] H2 (fun v7 H8=>agg2 v7 (fun v9 v10=>asI .i64 v9 (fun v11=>A 118 [(agg ⟨[(I v5),v4]⟩),(agg ⟨[(I v11),v10]⟩)] H8 (fun v13 H14=>agg2 v13 (fun v15 v16=>asI .i64 v15 (fun v17=>stK H14 x2 0 [(I v17),v16] (fun H19=>li H19 x2 0 (fun v20=>ld1 H19 x2 1 (fun v21=>P (agg ⟨[(I v20),v21]⟩) H19))))))))))))
def B3 (P:PT):Y k0:=fun x0 x2 H=>
  A 60 [x0,(I 8)] H (fun v1 H2=>asI .i64 v1 (fun v3=>pif ((v3:Int)==0) (B2 P x0 x2 H2) (B1 P x0 x2 H2)))
abbrev k1:Sk:=[(0,.v),(2,.x),(4,.x)]
def o4:=O 214
def B4 (P:PT):Y k1:=fun x0 x2 x4 H=>
  li H x4 0 (fun v1=>ld1 H x4 1 (fun v2=>li H x4 0 (fun v3=>A 117 [x0,(I v3)] H (fun v4 H5=>(li H5 x4 0 (fun v7=>ld1 H5 x4 1 (fun v8=>((agg ⟨[(I v7),v8]⟩)=(agg ⟨[(I v1),v2]⟩))∧(H5=H5))))∧(A 116 [(agg ⟨[(I v1),v2]⟩),v4] H5 (fun v9 H10=>agg2 v9 (fun v11 v12=>asI .i64 v11 (fun v13=>stK H10 x2 0 [(I v13),v12] (fun H15=>li H15 x2 0 (fun v16=>ld1 H15 x2 1 (fun v17=>P (agg ⟨[(I v16),v17]⟩) H15)))))))))))
theorem q4 (P:PT):QT Tryz.prog T0 40 o4 (.op 0 [] (.op 1 [] (.op 2 [] (.op 3 [] (.op 4 [0] (.op 5 [] (.op 6 [] .done))))))) (ret P) k1 (B4 P):=fun _ _ _ _ _  => by kernel_rfl
abbrev k2:Sk:=[(0,.v),(2,.x),(3,.v)]
def B5 (P:PT):Y k2:=fun x0 x2 x3 H=>
  lenK x3 (fun n1=>A 60 [x0,(I (n1:Int))] H (fun v2 H3=>asI .i64 v2 (fun v4=>idxK x3 v4 1 (fun b5 o6=>ld1 H3 b5 o6 (fun v8=>asS v8 (fun v7=>A 115 [(string v7)] H3 (fun v9 H10=>tup2 v9 (fun v11 v12=>agg2 v11 (fun v13 v14=>asI .i64 v13 (fun v15=>asB v12 (fun v17=>newK H10 [(I 0),(slice none 0 0)] 26 (fun b18 H19=>stK H19 b18 0 [(I v15),v14] (fun H20=>B4 P x0 x2 b18 H20)))))))))))))
def o6:=O 52
def B6 (P:PT):Y k0:=fun x0 x2 H=>
  A 114 [] H (fun v1 H2=>B5 P x0 x2 v1 H2)
def B7 (P:PT):Y k0:=fun x0 x2 H=>
  A 60 [x0,(I 3)] H (fun v1 H2=>asI .i64 v1 (fun v3=>pif ((v3:Int)==0) (B6 P x0 x2 H2) (B3 P x0 x2 H2)))
abbrev k3:Sk:=[(0,.v)]
def B8 (P:PT):Y k3:=fun x0 H=>
  newK H [(I 0),(slice none 0 0)] 26 (fun b1 H2=>B7 P x0 b1 H2)
def code:Code:=(.seq (R 0 2) (.seq (.seq (R 1 12) (.cond (.tmp 8) (.seq (R 2 52) (.seq (R 3 106) (.seq (.region 4 ⟨o4⟩ true) .ret))) .skip)) (.seq (.seq (R 5 28) (.cond (.tmp 29) (.seq (R 6 116) .ret) .skip)) (.seq (R 7 30) .ret))))
theorem body:Tryz.f58.body=some code:=by kernel_rfl
theorem main P:Z 40 k3 (B8 P) code (ret P):=
  (r_seq (b (E k0 (B7 P))) (r_seq (r_seq (b (cnd 8 (E k0 (B6 P)) (E k0 (B3 P)))) (r_cond rfl (r_seq (b (E k2 (B5 P))) (r_seq (b (E k1 (B4 P))) (r_seq (rT T0_ok mixed (.op 0 [] (.op 1 [] (.op 2 [] (.op 3 [] (.op 4 [0] (.op 5 [] (.op 6 [] .done))))))) (by kernel_rfl) (q4 P)) r_ret))) r_skip)) (r_seq (r_seq (b (cnd 29 (E k0 (B2 P)) (E k0 (B1 P)))) (r_cond rfl (r_seq (b (ret P)) r_ret) r_skip)) (r_seq (b (ret P)) r_ret))))
theorem ac (P:PT) (x0:Value) (H:AHeap) (h:B8 P x0 H):A 58 [x0] H P:=
  r_fn T0_ok (c:=code) (n:=40) Tryz.func58 body (by kernel_rfl) (main P) (En_mk (x0,()) (by kernel_rfl) ⟨by kernel_rfl,trivial⟩ h)

end F58
namespace F59
abbrev E:=En 28
def O (k:Nat):=ob Tryz.f59 (pth k)
abbrev R (i k:Nat):Code:=.region i ⟨O k⟩ false
def ret (P:PT):EP:=retE T0 28 Tryz.f59 P
abbrev k0:Sk:=[(6,.v)]
def B1 (P:PT):Y k0:=fun x6 H=>
  P x6 H
abbrev k1:Sk:=[(5,.v),(6,.v),(7,J)]
def B3 (P:PT) (N2:Y k1):Y k1:=fun x5 x6 x7 H=>
  N2 x5 x6 (i64.wrap (x7+1)) H
def B4 (P:PT) (N2:Y k1):Y k1:=fun x5 x6 x7 H=>
  newK H [(I x7)] 2 (fun b1 H2=>apK T0 2 H2 x6 (slice (some ⟨b1,0,none⟩) 1 (1+1)) (fun v3 H4=>B3 P N2 x5 v3 x7 H4))
def B5 (P:PT) (N2:Y k1):Y k1:=fun x5 x6 x7 H=>
  idxK x5 x7 1 (fun b1 o2=>li H b1 o2 (fun v3=>pif ((v3:Int)==1) (B4 P N2 x5 x6 x7 H) (B3 P N2 x5 x6 x7 H)))
def B6 (P:PT) (N2:Y k1):Y k1:=fun x5 x6 x7 H=>
  lenK x5 (fun n1=>pif (decide ((x7:Int)<(n1:Int))) (B5 P N2 x5 x6 x7 H) (B1 P x6 H))
def L2 (P:PT):Y k1:=fun x5 x6 x7 H=>
  ∃ (I:Y k1) (μ:NTy k1 (AHeap→Nat)),I x5 x6 x7 H∧∀ y5 y6 y7 G,I y5 y6 y7 G→B6 P (fun z5 z6 z7 G'=>I z5 z6 z7 G'∧μ z5 z6 z7 G'<μ y5 y6 y7 G) y5 y6 y7 G
theorem l2 P:LQ k1 (L2 P) (B6 P):=fun ⟨_,_,_,_⟩ _ ⟨I,μ,h0,hI⟩=>⟨apT _ I,apT _ μ,h0,fun ⟨_,_,_,_⟩ _ h=>hI _ _ _ _  h⟩
abbrev k2:Sk:=[(5,.v),(6,.v)]
def B7 (P:PT):Y k2:=fun x5 x6 H=>
  L2 P x5 x6 0 H
abbrev k3:Sk:=[(0,.v),(3,.x)]
def B8 (P:PT):Y k3:=fun x0 x3 H=>
  li H x3 0 (fun v1=>ld1 H x3 1 (fun v2=>A 119 [x0,(agg ⟨[(I v1),v2]⟩),(I 2)] H (fun v3 H4=>newK H4 [] 2 (fun b6 H7=>B7 P v3 (slice (some ⟨b6,0,none⟩) 0 (0+1)) H7))))
abbrev k4:Sk:=[(0,.v),(1,.g [.i,.v])]
def B9 (P:PT):Y k4:=fun x0 x1a x1b H=>
  newK H [(I x1a),x1b] 26 (fun b1 H2=>B8 P x0 b1 H2)
def code:Code:=(.seq (R 0 2) (.seq (R 1 6) (.seq (.seq (R 2 28) (.block 0 (.loop (.seq (.seq (R 3 464) (.cond (.tmp 15) .skip (.exit 0))) (.seq (.block 1 (.seq (R 5 1864) (.cond (.tmp 22) (R 6 3730) .skip))) (R 4 467)))))) (.seq (R 7 30) .ret))))
theorem body:Tryz.f59.body=some code:=by kernel_rfl
theorem main P:Z 28 k4 (B9 P) code (ret P):=
  (r_seq (b (E k3 (B8 P))) (r_seq (b (E k2 (B7 P))) (r_seq (r_seq (b (E k1 (L2 P))) (r_block (rL (l2 P) (fun N2=>(r_seq (r_seq (b (cnd 15 (E k1 (B5 P N2)) (E k0 (B1 P)))) (r_cond rfl r_skip (r_exit (fun _ _ h=>h)))) (r_seq (r_block (r_seq (b (cnd 22 (E k1 (B4 P N2)) (E k1 (B3 P N2)))) (r_cond rfl (b (E k1 (B3 P N2))) r_skip))) (b (E k1 N2)))))))) (r_seq (b (ret P)) r_ret))))
theorem ac (P:PT) (x0:Value) (x1a:Int) (x1b:Value) (H:AHeap) (h:B9 P x0 x1a x1b H):A 59 [x0,(agg ⟨[(I x1a),x1b]⟩)] H P:=
  r_fn T0_ok (c:=code) (n:=28) Tryz.func59 body (by kernel_rfl) (main P) (En_mk (x0,x1a,x1b,()) (by kernel_rfl) ⟨by kernel_rfl,by kernel_rfl,trivial⟩ h)

end F59
namespace F60
abbrev E:=En 58
def O (k:Nat):=ob Tryz.f60 (pth k)
abbrev R (i k:Nat):Code:=.region i ⟨O k⟩ false
def ret (P:PT):EP:=retE T0 58 Tryz.f60 P
abbrev k0:Sk:=[(1,J),(5,J)]
def B1 (P:PT):Y k0:=fun x1 x5 H=>
  nzK x1 (P (I (Int.tmod x5 x1)) H)
abbrev k1:Sk:=[(0,.v),(1,J),(5,J)]
def B2 (P:PT):Y k1:=fun x0 x1 x5 H=>
  nilK x0 (fun v1=>asP v1 (fun b2 o3=>li H b2 (o3+1) (fun v4=>nilK x0 (fun v5=>asP v5 (fun b6 o7=>stK H b6 (o7+1) [(I (i64.wrap (v4+1)))] (fun H8=>B1 P x1 x5 H8))))))
def o3:=O 500
def B3 (P:PT):Y k1:=fun x0 x1 x5 H=>
  nilK x0 (fun v1=>asP v1 (fun b2 o3=>ld1 H b2 o3 (fun v4=>nilK x0 (fun v5=>asP v5 (fun b6 o7=>li H b6 (o7+1) (fun v8=>idxK v4 v8 1 (fun b9 o10=>ldI .u8 H b9 o10 (fun v11=>B2 P x0 x1 (i64.wrap (x5+(i64.wrap v11))) H))))))))
theorem q3 (P:PT):QD Tryz.prog T0 58 o3 [(0,false),(1,false),(2,false),(3,false),(4,false),(5,false),(6,false),(7,false),(8,false),(9,false),(10,false),(11,false),(12,false),(13,false)] (En 58 k1 (B2 P)) k1 (B3 P):=fun _ _ _ _ _  => by kernel_rfl
def o4:=O 124
def B4 (P:PT):Y k1:=fun x0 x1 x5 H=>
  nilK x0 (fun v1=>asP v1 (fun b2 o3=>li H b2 (o3+1) (fun v4=>nilK x0 (fun v5=>asP v5 (fun b6 o7=>ld1 H b6 o7 (fun v8=>lenK v8 (fun n9=>pif (decide ((v4:Int)<(n9:Int))) (B3 P x0 x1 x5 H) (B1 P x1 x5 H))))))))
theorem q4 (P:PT):QD Tryz.prog T0 58 o4 [(0,false),(1,false),(2,false),(3,false),(4,false),(5,false),(6,false),(7,false),(8,false),(9,false)] (cnd 33 (En 58 k1 (B3 P)) (En 58 k0 (B1 P))) k1 (B4 P):=fun _ _ _ _ _  => by kernel_rfl
abbrev k2:Sk:=[(0,.v),(1,J)]
def B5 (P:PT):Y k2:=fun x0 x1 H=>
  nilK x0 (fun v1=>asP v1 (fun b2 o3=>ldI .u64 H b2 (o3+2) (fun v4=>((0:Int)≤33)∧(B4 P x0 x1 (i64.wrap (u64.wrap (BitVec.ofInt 64 (Int.fdiv v4 (2^(min (Int.toNat 33) 64)))&&&BitVec.ofInt 64 16777215).toNat)) H))))
def B6 (P:PT):Y k2:=fun x0 x1 H=>
  nilK x0 (fun v1=>asP v1 (fun b2 o3=>ldI .u64 H b2 (o3+2) (fun v4=>nilK x0 (fun v5=>asP v5 (fun b6 o7=>stK H b6 (o7+2) [(int .u64 (u64.wrap ((u64.wrap (v4*6364136223846793005))+1442695040888963407)))] (fun H8=>B5 P x0 x1 H8))))))
abbrev k3:Sk:=[]
def o7:=O 52
def B7 (P:PT):Y k3:=fun H=>
  P (I 0) H
def B8 (P:PT):Y k2:=fun x0 x1 H=>
  pif (decide ((x1:Int)<1)) (B7 P H) (B6 P x0 x1 H)
def B9 (P:PT):Y k2:=fun x0 x1 H=>
  B8 P x0 x1 H
def code:Code:=(.seq (R 0 2) (.seq (.seq (R 1 12) (.cond (.tmp 7) (.seq (R 2 52) .ret) .skip)) (.seq (R 3 14) (.seq (R 4 30) (.seq (.seq (.region 5 ⟨o4⟩ true) (.cond (.tmp 33) (.seq (.region 6 ⟨o3⟩ true) (R 7 501)) .skip)) (.seq (R 8 126) .ret))))))
theorem body:Tryz.f60.body=some code:=by kernel_rfl
theorem main P:Z 58 k2 (B9 P) code (ret P):=
  (r_seq (b (E k2 (B8 P))) (r_seq (r_seq (b (cnd 7 (E k3 (B7 P)) (E k2 (B6 P)))) (r_cond rfl (r_seq (b (ret P)) r_ret) r_skip)) (r_seq (b (E k2 (B5 P))) (r_seq (b (E k1 (B4 P))) (r_seq (r_seq (rD T0_ok mixed [(0,false),(1,false),(2,false),(3,false),(4,false),(5,false),(6,false),(7,false),(8,false),(9,false)] (by kernel_rfl) (q4 P)) (r_cond rfl (r_seq (rD T0_ok mixed [(0,false),(1,false),(2,false),(3,false),(4,false),(5,false),(6,false),(7,false),(8,false),(9,false),(10,false),(11,false),(12,false),(13,false)] (by kernel_rfl) (q3 P)) (b (E k0 (B1 P)))) r_skip)) (r_seq (b (ret P)) r_ret))))))
theorem ac (P:PT) (x0:Value) (x1:Int) (H:AHeap) (h:B9 P x0 x1 H):A 60 [x0,(I x1)] H P:=
  r_fn T0_ok (c:=code) (n:=58) Tryz.func60 body (by kernel_rfl) (main P) (En_mk (x0,x1,()) (by kernel_rfl) ⟨by kernel_rfl,by kernel_rfl,trivial⟩ h)

end F60
namespace F61
abbrev E:=En 35
def O (k:Nat):=ob Tryz.f61 (pth k)
abbrev R (i k:Nat):Code:=.region i ⟨O k⟩ false
def ret (P:PT):EP:=retE T0 35 Tryz.f61 P
abbrev k0:Sk:=[(7,.v)]
def B1 (P:PT):Y k0:=fun x7 H=>
  P x7 H
abbrev k1:Sk:=[(0,.v),(1,J),(7,.v)]
def B2 (P:PT):Y k1:=fun x0 x1 x7 H=>
  newK H [(I 0),(I (-1)),(I x1)] 2 (fun b1 H2=>A 78 [x0,(slice (some ⟨b1,0,none⟩) 3 (3+1))] H2 (fun v3 H4=>asI .i64 v3 (fun v5=>newK H4 [(I v5)] 2 (fun b6 H7=>apK T0 2 H7 x7 (slice (some ⟨b6,0,none⟩) 1 (1+1)) (fun v8 H9=>B1 P v8 H9)))))
def B3 (P:PT):Y k1:=fun x0 x1 x7 H=>
  A 60 [x0,(I 24)] H (fun v1 H2=>asI .i64 v1 (fun v3=>pif ((v3:Int)==0) (B2 P x0 x1 x7 H2) (B1 P x7 H2)))
abbrev k2:Sk:=[(0,.v),(1,J),(2,J),(7,.v),(8,J)]
def B5 (P:PT) (N4:Y k2):Y k2:=fun x0 x1 x2 x7 x8 H=>
  N4 x0 x1 x2 x7 (i64.wrap (x8+1)) H
def B6 (P:PT) (N4:Y k2):Y k2:=fun x0 x1 x2 x7 x8 H=>
  newK H [(I x8)] 2 (fun b1 H2=>apK T0 2 H2 x7 (slice (some ⟨b1,0,none⟩) 1 (1+1)) (fun v3 H4=>B5 P N4 x0 x1 x2 v3 x8 H4))
def B7 (P:PT) (N4:Y k2):Y k2:=fun x0 x1 x2 x7 x8 H=>
  A 60 [x0,(I x1)] H (fun v1 H2=>asI .i64 v1 (fun v3=>pif (decide ((v3:Int)<x2)) (B6 P N4 x0 x1 x2 x7 x8 H2) (B5 P N4 x0 x1 x2 x7 x8 H2)))
def B8 (P:PT) (N4:Y k2):Y k2:=fun x0 x1 x2 x7 x8 H=>
  pif (decide ((x8:Int)<x1)) (B7 P N4 x0 x1 x2 x7 x8 H) (B3 P x0 x1 x7 H)
def L4 (P:PT):Y k2:=fun x0 x1 x2 x7 x8 H=>
  ∃ (I:Y k2) (μ:NTy k2 (AHeap→Nat)),I x0 x1 x2 x7 x8 H∧∀ y0 y1 y2 y7 y8 G,I y0 y1 y2 y7 y8 G→B8 P (fun z0 z1 z2 z7 z8 G'=>I z0 z1 z2 z7 z8 G'∧μ z0 z1 z2 z7 z8 G'<μ y0 y1 y2 y7 y8 G) y0 y1 y2 y7 y8 G
theorem l4 P:LQ k2 (L4 P) (B8 P):=fun ⟨_,_,_,_,_,_⟩ _ ⟨I,μ,h0,hI⟩=>⟨apT _ I,apT _ μ,h0,fun ⟨_,_,_,_,_,_⟩ _ h=>hI _ _ _ _ _ _  h⟩
abbrev k3:Sk:=[(0,.v),(1,J),(2,J),(7,.v)]
def B9 (P:PT):Y k3:=fun x0 x1 x2 x7 H=>
  L4 P x0 x1 x2 x7 0 H
abbrev k4:Sk:=[(0,.v),(1,J),(2,J)]
def B10 (P:PT):Y k4:=fun x0 x1 x2 H=>
  newK H [] 2 (fun b1 H2=>B9 P x0 x1 x2 (slice (some ⟨b1,0,none⟩) 0 (0+1)) H2)
def B11 (P:PT):Y k4:=fun x0 x1 x2 H=>
  B10 P x0 x1 x2 H
def code:Code:=(.seq (R 0 2) (.seq (R 1 6) (.seq (.seq (R 2 28) (.block 0 (.loop (.seq (.seq (R 3 464) (.cond (.tmp 12) .skip (.exit 0))) (.seq (.block 1 (.seq (R 5 1864) (.cond (.tmp 19) (R 6 3730) .skip))) (R 4 467)))))) (.seq (.seq (R 7 60) (.cond (.tmp 26) (R 8 122) .skip)) (.seq (R 9 62) .ret)))))
theorem body:Tryz.f61.body=some code:=by kernel_rfl
theorem main P:Z 35 k4 (B11 P) code (ret P):=
  (r_seq (b (E k4 (B10 P))) (r_seq (b (E k3 (B9 P))) (r_seq (r_seq (b (E k2 (L4 P))) (r_block (rL (l4 P) (fun N4=>(r_seq (r_seq (b (cnd 12 (E k2 (B7 P N4)) (E k1 (B3 P)))) (r_cond rfl r_skip (r_exit (fun _ _ h=>h)))) (r_seq (r_block (r_seq (b (cnd 19 (E k2 (B6 P N4)) (E k2 (B5 P N4)))) (r_cond rfl (b (E k2 (B5 P N4))) r_skip))) (b (E k2 N4)))))))) (r_seq (r_seq (b (cnd 26 (E k1 (B2 P)) (E k0 (B1 P)))) (r_cond rfl (b (E k0 (B1 P))) r_skip)) (r_seq (b (ret P)) r_ret)))))
theorem ac (P:PT) (x0:Value) (x1 x2:Int) (H:AHeap) (h:B11 P x0 x1 x2 H):A 61 [x0,(I x1),(I x2)] H P:=
  r_fn T0_ok (c:=code) (n:=35) Tryz.func61 body (by kernel_rfl) (main P) (En_mk (x0,x1,x2,()) (by kernel_rfl) ⟨by kernel_rfl,by kernel_rfl,by kernel_rfl,trivial⟩ h)

end F61
namespace F62
abbrev E:=En 69
def O (k:Nat):=ob Tryz.f62 (pth k)
abbrev R (i k:Nat):Code:=.region i ⟨O k⟩ false
def ret (P:PT):EP:=retE T0 69 Tryz.f62 P
abbrev k0:Sk:=[(3,.x),(4,.x),(5,.v)]
def B1 (P:PT):Y k0:=fun x3 x4 x5 H=>
  li H x3 0 (fun v1=>pif (Value.oneCell' x5) (stK H x4 0 [(I v1),x5] (fun H2=>li H2 x4 0 (fun v3=>ld1 H2 x4 1 (fun v4=>P (agg ⟨[(I v3),v4]⟩) H2)))) False)
abbrev k1:Sk:=[(0,.v),(3,.x),(4,.x),(5,.v)]
def o2:=O 468
def B2 (P:PT):Y k1:=fun x0 x3 x4 x5 H=>
  li H x3 0 (fun v1=>newK H [(I 0),(I 3),(I 22),(I (-2)),(I (i64.wrap (v1+2)))] 2 (fun b2 H3=>A 78 [x0,(slice (some ⟨b2,0,none⟩) 5 (5+1))] H3 (fun v4 H5=>asI .i64 v4 (fun v6=>pif (Value.oneCell' x5) (stK H5 x4 0 [(I v6),x5] (fun H7=>li H7 x4 0 (fun v8=>ld1 H7 x4 1 (fun v9=>P (agg ⟨[(I v8),v9]⟩) H7)))) False))))
def o3:=O 942
def B3 (P:PT):Y k1:=fun x0 x3 x4 x5 H=>
  lenK x5 (fun n1=>li H x3 0 (fun v2=>li H x3 0 (fun v3=>(A 60 [x0,(I (n1:Int))] H (fun v4 H5=>asI .i64 v4 (fun v6=>(li H5 x3 0 (fun v7=>((I v7)=(I v2))∧(H5=H5)))∧((li H5 x3 0 (fun v8=>((I v8)=(I v3))∧(H5=H5)))∧((A 60 [x0,(I v2)] H5 (fun v9 H10=>asI .i64 v9 (fun v11=>(li H10 x3 0 (fun v12=>((I v12)=(I v3))∧(H10=H10)))∧(newK H10 [(I (-1)),(I v3),(I 0)] 2 (fun b13 H14=>A 78 [x0,(slice (some ⟨b13,0,none⟩) 3 (3+1))] H14 (fun v15 H16=>asI .i64 v15 (fun v17=>idxK x5 v6 2 (fun b18 o19=>stK H16 b18 o19 [(I v11),(I v17)] (fun H20=>B1 P x3 x4 x5 H20)))))))))∧(newK H5 [(I (-1)),(I v3),(I 0)] 2 (fun b21 H22=>A 60 [x0,(I v2)] H22 (fun v23 H24=>asI .i64 v23 (fun v25=>(li H24 x3 0 (fun v26=>((I v26)=(I v3))∧(H24=H24)))∧(A 78 [x0,(slice (some ⟨b21,0,none⟩) 3 (3+1))] H24 (fun v27 H28=>asI .i64 v27 (fun v29=>idxK x5 v6 2 (fun b30 o31=>stK H28 b30 o31 [(I v25),(I v29)] (fun H32=>B1 P x3 x4 x5 H32))))))))))))))∧(newK H [(I (-1)),(I v3),(I 0)] 2 (fun b33 H34=>A 60 [x0,(I (n1:Int))] H34 (fun v35 H36=>asI .i64 v35 (fun v37=>(li H36 x3 0 (fun v38=>((I v38)=(I v2))∧(H36=H36)))∧((li H36 x3 0 (fun v39=>((I v39)=(I v3))∧(H36=H36)))∧(A 60 [x0,(I v2)] H36 (fun v40 H41=>asI .i64 v40 (fun v42=>(li H41 x3 0 (fun v43=>((I v43)=(I v3))∧(H41=H41)))∧(A 78 [x0,(slice (some ⟨b33,0,none⟩) 3 (3+1))] H41 (fun v44 H45=>asI .i64 v44 (fun v46=>idxK x5 v37 2 (fun b47 o48=>stK H45 b47 o48 [(I v42),(I v46)] (fun H49=>B1 P x3 x4 x5 H49))))))))))))))))
theorem q3 (P:PT):QT Tryz.prog T0 69 o3 (.op 0 [] (.op 1 [] (.op 2 [] (.op 3 [] (.op 5 [] (.op 6 [] (.op 7 [] (.op 9 [] (.op 10 [] (.op 11 [] (.alt (.op 4 [7,11] (.alt (.op 8 [11] (.op 12 [] (.op 13 [] (.op 14 [] (.op 15 [] (.op 16 [] .done)))))) (.op 12 [] (.op 8 [11] (.op 13 [] (.op 14 [] (.op 15 [] (.op 16 [] .done)))))))) (.op 12 [] (.op 4 [7,11] (.op 8 [11] (.op 13 [] (.op 14 [] (.op 15 [] (.op 16 [] .done)))))))))))))))))) (En 69 k0 (B1 P)) k1 (B3 P):=fun _ _ _ _ _ _  => by kernel_rfl
abbrev k2:Sk:=[(3,.x),(4,.x),(5,.v),(6,.x)]
def B4 (P:PT):Y k2:=fun x3 x4 x5 x6 H=>
  lenK x5 (fun n1=>li H x6 0 (fun v2=>li H x6 1 (fun v3=>idxK x5 (i64.wrap ((n1:Int)-1)) 2 (fun b4 o5=>stK H b4 o5 [(I v2),(I v3)] (fun H6=>B1 P x3 x4 x5 H6)))))
def o5:=O 15098
def B5 (P:PT):Y k2:=fun x3 x4 x5 x6 H=>
  lenK x5 (fun n1=>idxK x5 (i64.wrap ((n1:Int)-1)) 2 (fun b2 o3=>li H b2 o3 (fun v4=>li H b2 (o3+1) (fun v5=>idxK x5 0 2 (fun b6 o7=>stK H b6 o7 [(I v4),(I v5)] (fun H8=>B4 P x3 x4 x5 x6 H8))))))
def B6 (P:PT):Y k0:=fun x3 x4 x5 H=>
  idxK x5 0 2 (fun b1 o2=>li H b1 o2 (fun v3=>li H b1 (o2+1) (fun v4=>newK H [(I 0),(I 0)] 66 (fun b5 H6=>stK H6 b5 0 [(I v3),(I v4)] (fun H7=>B5 P x3 x4 x5 b5 H7)))))
def o7:=O 15102
def B7 (P:PT):Y k0:=fun x3 x4 x5 H=>
  sliceK H 66 x5 (some (I 1)) none 2 (fun v1=>B1 P x3 x4 v1 H)
abbrev k3:Sk:=[(3,.x),(4,.x)]
def B8 (P:PT):Y k3:=fun x3 x4 H=>
  li H x3 0 (fun v1=>ld1 H x3 1 (fun v2=>stK H x4 0 [(I v1),v2] (fun H3=>li H3 x4 0 (fun v4=>ld1 H3 x4 1 (fun v5=>P (agg ⟨[(I v4),v5]⟩) H3)))))
abbrev k4:Sk:=[(3,.x),(4,.x),(5,.v),(12,J)]
def B9 (P:PT):Y k4:=fun x3 x4 x5 x12 H=>
  pif ((x12:Int)==3) (B7 P x3 x4 x5 H) (B8 P x3 x4 H)
def B10 (P:PT):Y k4:=fun x3 x4 x5 x12 H=>
  pif ((x12:Int)==2) (B6 P x3 x4 x5 H) (B9 P x3 x4 x5 x12 H)
abbrev k5:Sk:=[(0,.v),(3,.x),(4,.x),(5,.v),(12,J)]
def B11 (P:PT):Y k5:=fun x0 x3 x4 x5 x12 H=>
  pif ((x12:Int)==1) (B3 P x0 x3 x4 x5 H) (B10 P x3 x4 x5 x12 H)
def B12 (P:PT):Y k5:=fun x0 x3 x4 x5 x12 H=>
  pif ((x12:Int)==0) (B2 P x0 x3 x4 x5 H) (B11 P x0 x3 x4 x5 x12 H)
def B13 (P:PT):Y k1:=fun x0 x3 x4 x5 H=>
  A 60 [x0,(I 50)] H (fun v1 H2=>asI .i64 v1 (fun v3=>B12 P x0 x3 x4 x5 v3 H2))
abbrev k6:Sk:=[(0,.v),(3,.x),(4,.x)]
def B14 (P:PT):Y k6:=fun x0 x3 x4 H=>
  newK H [] 66 (fun b1 H2=>ld1 H2 x3 1 (fun v3=>apK T0 66 H2 (slice (some ⟨b1,0,none⟩) 0 (0+1)) v3 (fun v4 H5=>B13 P x0 x3 x4 v4 H5)))
abbrev k7:Sk:=[(0,.v),(1,.g [.i,.v])]
def B15 (P:PT):Y k7:=fun x0 x1a x1b H=>
  newK H [(I x1a),x1b] 26 (fun b1 H2=>newK H2 [(I 0),(slice none 0 0)] 26 (fun b3 H4=>B14 P x0 b1 b3 H4))
def code:Code:=(.seq (R 0 2) (.seq (R 1 6) (.seq (.seq (R 2 28) (.block 0 (.seq (R 4 116) (.cond (.tmp 14) (.seq (R 5 468) .ret) (.seq (R 6 470) (.cond (.tmp 24) (.region 7 ⟨o3⟩ true) (.seq (R 8 1886) (.cond (.tmp 42) (.seq (R 9 7548) (.seq (R 10 15098) (R 11 15099))) (.seq (R 12 7550) (.cond (.tmp 61) (R 13 15102) (.seq (R 3 30206) .ret))))))))))) (.seq (R 14 30) .ret))))
theorem body:Tryz.f62.body=some code:=by kernel_rfl
theorem main P:Z 69 k7 (B15 P) code (ret P):=
  (r_seq (b (E k6 (B14 P))) (r_seq (b (E k1 (B13 P))) (r_seq (r_seq (b (E k5 (B12 P))) (r_block (r_seq (b (cnd 14 (E k1 (B2 P)) (E k5 (B11 P)))) (r_cond rfl (r_seq (b (ret P)) r_ret) (r_seq (b (cnd 24 (E k1 (B3 P)) (E k4 (B10 P)))) (r_cond rfl (rT T0_ok mixed (.op 0 [] (.op 1 [] (.op 2 [] (.op 3 [] (.op 5 [] (.op 6 [] (.op 7 [] (.op 9 [] (.op 10 [] (.op 11 [] (.alt (.op 4 [7,11] (.alt (.op 8 [11] (.op 12 [] (.op 13 [] (.op 14 [] (.op 15 [] (.op 16 [] .done)))))) (.op 12 [] (.op 8 [11] (.op 13 [] (.op 14 [] (.op 15 [] (.op 16 [] .done)))))))) (.op 12 [] (.op 4 [7,11] (.op 8 [11] (.op 13 [] (.op 14 [] (.op 15 [] (.op 16 [] .done)))))))))))))))))) (by kernel_rfl) (q3 P)) (r_seq (b (cnd 42 (E k0 (B6 P)) (E k4 (B9 P)))) (r_cond rfl (r_seq (b (E k2 (B5 P))) (r_seq (b (E k2 (B4 P))) (b (E k0 (B1 P))))) (r_seq (b (cnd 61 (E k0 (B7 P)) (E k3 (B8 P)))) (r_cond rfl (b (E k0 (B1 P))) (r_seq (b (ret P)) r_ret))))))))))) (r_seq (b (ret P)) r_ret))))
theorem ac (P:PT) (x0:Value) (x1a:Int) (x1b:Value) (H:AHeap) (h:B15 P x0 x1a x1b H):A 62 [x0,(agg ⟨[(I x1a),x1b]⟩)] H P:=
  r_fn T0_ok (c:=code) (n:=69) Tryz.func62 body (by kernel_rfl) (main P) (En_mk (x0,x1a,x1b,()) (by kernel_rfl) ⟨by kernel_rfl,by kernel_rfl,trivial⟩ h)

end F62
namespace F63
abbrev E:=En 18
def O (k:Nat):=ob Tryz.f63 (pth k)
abbrev R (i k:Nat):Code:=.region i ⟨O k⟩ false
def ret (P:PT):EP:=retE T0 18 Tryz.f63 P
abbrev k0:Sk:=[]
def B1 (P:PT):Y k0:=fun H=>
  P (bool false) H
abbrev k1:Sk:=[(0,.v),(1,J),(5,J)]
def B3 (P:PT) (N2:Y k1):Y k1:=fun x0 x1 x5 H=>
  N2 x0 x1 (i64.wrap (x5+1)) H
def B4 (P:PT) (N2:Y k1):Y k0:=fun H=>
  P (bool true) H
def B5 (P:PT) (N2:Y k1):Y k1:=fun x0 x1 x5 H=>
  idxK x0 x5 1 (fun b1 o2=>li H b1 o2 (fun v3=>pif ((v3:Int)==x1) (B4 P N2 H) (B3 P N2 x0 x1 x5 H)))
def B6 (P:PT) (N2:Y k1):Y k1:=fun x0 x1 x5 H=>
  lenK x0 (fun n1=>pif (decide ((x5:Int)<(n1:Int))) (B5 P N2 x0 x1 x5 H) (B1 P H))
def L2 (P:PT):Y k1:=fun x0 x1 x5 H=>
  ∃ (I:Y k1) (μ:NTy k1 (AHeap→Nat)),I x0 x1 x5 H∧∀ y0 y1 y5 G,I y0 y1 y5 G→B6 P (fun z0 z1 z5 G'=>I z0 z1 z5 G'∧μ z0 z1 z5 G'<μ y0 y1 y5 G) y0 y1 y5 G
theorem l2 P:LQ k1 (L2 P) (B6 P):=fun ⟨_,_,_,_⟩ _ ⟨I,μ,h0,hI⟩=>⟨apT _ I,apT _ μ,h0,fun ⟨_,_,_,_⟩ _ h=>hI _ _ _ _  h⟩
abbrev k2:Sk:=[(0,.v),(1,J)]
def B7 (P:PT):Y k2:=fun x0 x1 H=>
  L2 P x0 x1 0 H
def B8 (P:PT):Y k2:=fun x0 x1 H=>
  B7 P x0 x1 H
def code:Code:=(.seq (R 0 2) (.seq (.seq (R 1 12) (.block 0 (.loop (.seq (.seq (R 2 208) (.cond (.tmp 9) .skip (.exit 0))) (.seq (.block 1 (.seq (R 4 840) (.cond (.tmp 17) (.seq (R 5 3364) .ret) .skip))) (R 3 211)))))) (.seq (R 6 14) .ret)))
theorem body:Tryz.f63.body=some code:=by kernel_rfl
theorem main P:Z 18 k2 (B8 P) code (ret P):=
  (r_seq (b (E k2 (B7 P))) (r_seq (r_seq (b (E k1 (L2 P))) (r_block (rL (l2 P) (fun N2=>(r_seq (r_seq (b (cnd 9 (E k1 (B5 P N2)) (E k0 (B1 P)))) (r_cond rfl r_skip (r_exit (fun _ _ h=>h)))) (r_seq (r_block (r_seq (b (cnd 17 (E k0 (B4 P N2)) (E k1 (B3 P N2)))) (r_cond rfl (r_seq (b (ret P)) r_ret) r_skip))) (b (E k1 N2)))))))) (r_seq (b (ret P)) r_ret)))
theorem ac (P:PT) (x0:Value) (x1:Int) (H:AHeap) (h:B8 P x0 x1 H):A 63 [x0,(I x1)] H P:=
  r_fn T0_ok (c:=code) (n:=18) Tryz.func63 body (by kernel_rfl) (main P) (En_mk (x0,x1,()) (by kernel_rfl) ⟨by kernel_rfl,by kernel_rfl,trivial⟩ h)

end F63
namespace F64
abbrev E:=En 7
def O (k:Nat):=ob Tryz.f64 (pth k)
abbrev R (i k:Nat):Code:=.region i ⟨O k⟩ false
def ret (P:PT):EP:=retE T0 7 Tryz.f64 P
abbrev k0:Sk:=[(0,.v),(2,.x)]
def B1 (P:PT):Y k0:=fun x0 x2 H=>
  A 58 [x0] H (fun v1 H2=>agg2 v1 (fun v3 v4=>asI .i64 v3 (fun v5=>A 62 [x0,(agg ⟨[(I v5),v4]⟩)] H2 (fun v7 H8=>agg2 v7 (fun v9 v10=>asI .i64 v9 (fun v11=>stK H8 x2 0 [(I v11),v10] (fun H13=>li H13 x2 0 (fun v14=>ld1 H13 x2 1 (fun v15=>P (agg ⟨[(I v14),v15]⟩) H13)))))))))
abbrev k1:Sk:=[(0,.v)]
def B2 (P:PT):Y k1:=fun x0 H=>
  newK H [(I 0),(slice none 0 0)] 26 (fun b1 H2=>B1 P x0 b1 H2)
def code:Code:=(.seq (R 0 2) (.seq (R 1 6) .ret))
theorem body:Tryz.f64.body=some code:=by kernel_rfl
theorem main P:Z 7 k1 (B2 P) code (ret P):=
  (r_seq (b (E k0 (B1 P))) (r_seq (b (ret P)) r_ret))
theorem ac (P:PT) (x0:Value) (H:AHeap) (h:B2 P x0 H):A 64 [x0] H P:=
  r_fn T0_ok (c:=code) (n:=7) Tryz.func64 body (by kernel_rfl) (main P) (En_mk (x0,()) (by kernel_rfl) ⟨by kernel_rfl,trivial⟩ h)

end F64
end
end Go.Proofs
