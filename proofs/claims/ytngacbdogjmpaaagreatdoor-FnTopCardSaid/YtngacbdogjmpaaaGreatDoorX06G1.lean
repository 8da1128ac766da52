import Derived.Test.YtngacbdogjmpaaaGreatDoorX06S
set_option linter.unusedVariables false
set_option maxRecDepth 100000
namespace Go.Proofs
open Go.Abs
open Value IntKind
noncomputable section
namespace F3
abbrev E:=En 169
def O (k:Nat):=ob Tryz.f3 (pth k)
abbrev R (i k:Nat):Code:=.region i ⟨O k⟩ false
def ret (P:PT):EP:=retE T0 169 Tryz.f3 P
abbrev k0:Sk:=[(12,J),(20,J),(21,J),(22,.b),(23,J)]
def B1 (P:PT):Y k0:=fun x12 x20 x21 x22 x23 H=>
  pif ((x21:Int)==0) (pif (decide ((x20:Int)≥3)) (pif ((x23:Int)==0) (P (bool (x22==(decide ((x12:Int)>0)))) H) (P (bool false) H)) (P (bool false) H)) (P (bool false) H)
abbrev k1:Sk:=[(4,.x),(12,J),(20,J),(21,J)]
def B2 (P:PT):Y k1:=fun x4 x12 x20 x21 H=>
  li H x4 0 (fun v1=>ld1 H x4 1 (fun v2=>A 19 [(agg ⟨[(I v1),v2]⟩)] H (fun v3 H4=>tup2 v3 (fun v5 v6=>asB v5 (fun v7=>asI .i64 v6 (fun v8=>B1 P x12 x20 x21 v7 v8 H4))))))
abbrev k2:Sk:=[(4,.x),(12,J)]
def B3 (P:PT):Y k2:=fun x4 x12 H=>
  li H x4 0 (fun v1=>ld1 H x4 1 (fun v2=>A 18 [(agg ⟨[(I v1),v2]⟩)] H (fun v3 H4=>tup2 v3 (fun v5 v6=>asI .i64 v5 (fun v7=>asI .i64 v6 (fun v8=>B2 P x4 x12 v7 v8 H4))))))
abbrev k3:Sk:=[]
def B4 (P:PT):Y k3:=fun H=>
  P (bool false) H
abbrev k4:Sk:=[(4,.x),(12,J),(16,J),(18,J)]
def B5 (P:PT):Y k4:=fun x4 x12 x16 x18 H=>
  pif (!((decide ((x12:Int)>0))==((x16:Int)==0))) (B4 P H) (pif (!((decide ((x12:Int)>0))==((x18:Int)==0))) (B4 P H) (B3 P x4 x12 H))
def B6 (P:PT):Y k3:=fun H=>
  P (bool false) H
abbrev k5:Sk:=[(4,.x),(12,J),(13,J),(14,J),(15,J),(16,J),(17,J),(18,J),(19,J)]
def B7 (P:PT):Y k5:=fun x4 x12 x13 x14 x15 x16 x17 x18 x19 H=>
  pif ((x13:Int) != x15) (B6 P H) (pif ((x12:Int) != x14) (B6 P H) (pif ((x13:Int) != 0) (B6 P H) (pif ((x17:Int) != 0) (B6 P H) (pif ((x19:Int) != 0) (B6 P H) (B5 P x4 x12 x16 x18 H)))))
abbrev k6:Sk:=[(4,.x),(12,J),(13,J),(14,J),(15,J),(16,J),(17,J)]
def B8 (P:PT):Y k6:=fun x4 x12 x13 x14 x15 x16 x17 H=>
  li H x4 0 (fun v1=>ld1 H x4 1 (fun v2=>A 17 [(agg ⟨[(I v1),v2]⟩)] H (fun v3 H4=>tup2 v3 (fun v5 v6=>asI .i64 v5 (fun v7=>asI .i64 v6 (fun v8=>B7 P x4 x12 x13 x14 x15 x16 x17 v7 v8 H4))))))
abbrev k7:Sk:=[(4,.x),(12,J),(13,J),(14,J),(15,J)]
def B9 (P:PT):Y k7:=fun x4 x12 x13 x14 x15 H=>
  li H x4 0 (fun v1=>ld1 H x4 1 (fun v2=>A 16 [(agg ⟨[(I v1),v2]⟩)] H (fun v3 H4=>tup2 v3 (fun v5 v6=>asI .i64 v5 (fun v7=>asI .i64 v6 (fun v8=>B8 P x4 x12 x13 x14 x15 v7 v8 H4))))))
abbrev k8:Sk:=[(4,.x),(12,J),(13,J)]
def B10 (P:PT):Y k8:=fun x4 x12 x13 H=>
  li H x4 0 (fun v1=>ld1 H x4 1 (fun v2=>A 15 [(agg ⟨[(I v1),v2]⟩)] H (fun v3 H4=>tup2 v3 (fun v5 v6=>asI .i64 v5 (fun v7=>asI .i64 v6 (fun v8=>B9 P x4 x12 x13 v7 v8 H4))))))
abbrev k9:Sk:=[(4,.x)]
def B11 (P:PT):Y k9:=fun x4 H=>
  li H x4 0 (fun v1=>ld1 H x4 1 (fun v2=>A 14 [(agg ⟨[(I v1),v2]⟩)] H (fun v3 H4=>tup2 v3 (fun v5 v6=>asI .i64 v5 (fun v7=>asI .i64 v6 (fun v8=>B10 P x4 v7 v8 H4))))))
abbrev k10:Sk:=[(3,.v),(4,.x),(5,J)]
def B13 (P:PT) (N12:Y k10):Y k10:=fun x3 x4 x5 H=>
  N12 x3 x4 (i64.wrap (x5-1)) H
abbrev k11:Sk:=[(3,.v),(4,.x),(5,J),(8,.x)]
def B14 (P:PT) (N12:Y k10):Y k11:=fun x3 x4 x5 x8 H=>
  li H x8 0 (fun v1=>ld1 H x8 1 (fun v2=>stK H x4 0 [(I v1),v2] (fun H3=>B13 P N12 x3 x4 x5 H3)))
def B15 (P:PT) (N12:Y k10):Y k3:=fun H=>
  P (bool false) H
abbrev k12:Sk:=[(3,.v),(4,.x),(5,J),(8,.x),(9,J),(10,.x),(11,J)]
def B16 (P:PT) (N12:Y k10):Y k12:=fun x3 x4 x5 x8 x9 x10 x11 H=>
  pif ((x9:Int) != x11) (B15 P N12 H) (li H x8 0 (fun v1=>ld1 H x8 1 (fun v2=>li H x10 0 (fun v3=>ld1 H x10 1 (fun v4=>A 12 [(agg ⟨[(I v1),v2]⟩),(agg ⟨[(I v3),v4]⟩)] H (fun v5 H6=>asB v5 (fun v7=>pif (!v7) (B15 P N12 H6) (pif ((x9:Int) != 0) (B15 P N12 H6) (li H6 x8 0 (fun v8=>ld1 H6 x8 1 (fun v9=>A 13 [(agg ⟨[(I v8),v9]⟩)] H6 (fun v10 H11=>asB v10 (fun v12=>pif (!v12) (B15 P N12 H11) (B14 P N12 x3 x4 x5 x8 H11))))))))))))))
abbrev k13:Sk:=[(3,.v),(4,.x),(5,J),(6,J),(7,J),(8,.x),(9,J)]
def B17 (P:PT) (N12:Y k10):Y k13:=fun x3 x4 x5 x6 x7 x8 x9 H=>
  li H x4 0 (fun v1=>ld1 H x4 1 (fun v2=>A 11 [(agg ⟨[(I v1),v2]⟩),(I x6),(I x7)] H (fun v3 H4=>tup2 v3 (fun v5 v6=>agg2 v5 (fun v7 v8=>asI .i64 v7 (fun v9=>asI .i64 v6 (fun v11=>newK H4 [(I 0),(slice none 0 0)] 31 (fun b12 H13=>stK H13 b12 0 [(I v9),v8] (fun H14=>B16 P N12 x3 x4 x5 x8 x9 b12 v11 H14)))))))))
abbrev k14:Sk:=[(3,.v),(4,.x),(5,J),(6,J),(7,J)]
def B18 (P:PT) (N12:Y k10):Y k14:=fun x3 x4 x5 x6 x7 H=>
  li H x4 0 (fun v1=>ld1 H x4 1 (fun v2=>A 10 [(agg ⟨[(I v1),v2]⟩),(I x6),(I x7)] H (fun v3 H4=>tup2 v3 (fun v5 v6=>agg2 v5 (fun v7 v8=>asI .i64 v7 (fun v9=>asI .i64 v6 (fun v11=>newK H4 [(I 0),(slice none 0 0)] 31 (fun b12 H13=>stK H13 b12 0 [(I v9),v8] (fun H14=>B17 P N12 x3 x4 x5 x6 x7 b12 v11 H14)))))))))
abbrev k15:Sk:=[(3,.v),(4,.x),(5,J),(6,J)]
def B19 (P:PT) (N12:Y k10):Y k15:=fun x3 x4 x5 x6 H=>
  ld1 H x4 1 (fun v1=>lenK v1 (fun n2=>nzK (n2:Int) (B18 P N12 x3 x4 x5 x6 (Int.tmod (i64.wrap (x6+1)) (n2:Int)) H)))
def B20 (P:PT) (N12:Y k10):Y k14:=fun x3 x4 x5 x6 x7 H=>
  pif ((x6:Int)==x7) (B19 P N12 x3 x4 x5 x6 H) (B18 P N12 x3 x4 x5 x6 x7 H)
def B21 (P:PT) (N12:Y k10):Y k15:=fun x3 x4 x5 x6 H=>
  ld1 H x4 1 (fun v1=>lenK v1 (fun n2=>A 9 [x3,(I (n2:Int))] H (fun v3 H4=>asI .i64 v3 (fun v5=>B20 P N12 x3 x4 x5 x6 v5 H4))))
def B22 (P:PT) (N12:Y k10):Y k10:=fun x3 x4 x5 H=>
  ld1 H x4 1 (fun v1=>lenK v1 (fun n2=>A 9 [x3,(I (n2:Int))] H (fun v3 H4=>asI .i64 v3 (fun v5=>B21 P N12 x3 x4 x5 v5 H4))))
def B23 (P:PT) (N12:Y k10):Y k10:=fun x3 x4 x5 H=>
  pif (decide ((x5:Int)>0)) (B22 P N12 x3 x4 x5 H) (B11 P x4 H)
def L12 (P:PT):Y k10:=fun x3 x4 x5 H=>
  ∃ (I:Y k10) (μ:NTy k10 (AHeap→Nat)),I x3 x4 x5 H∧∀ y3 y4 y5 G,I y3 y4 y5 G→B23 P (fun z3 z4 z5 G'=>I z3 z4 z5 G'∧μ z3 z4 z5 G'<μ y3 y4 y5 G) y3 y4 y5 G
theorem l12 P:LQ k10 (L12 P) (B23 P):=fun ⟨_,_,_,_⟩ _ ⟨I,μ,h0,hI⟩=>⟨apT _ I,apT _ μ,h0,fun ⟨_,_,_,_⟩ _ h=>hI _ _ _ _  h⟩
abbrev k16:Sk:=[(3,.v),(4,.x)]
def B24 (P:PT):Y k16:=fun x3 x4 H=>
  A 9 [x3,(I 5)] H (fun v1 H2=>asI .i64 v1 (fun v3=>L12 P x3 x4 v3 H2))
abbrev k17:Sk:=[(3,.v)]
def B25 (P:PT):Y k17:=fun x3 H=>
  newK H [(I 0),(I 1),(I 0),(I 1),(I 0),(I 1)] 28 (fun b1 H2=>newK H2 [(I 0),(slice none 0 0)] 31 (fun b3 H4=>stK H4 b3 0 [(I 2),(slice (some ⟨b1,0,none⟩) 3 (3+1))] (fun H5=>B24 P x3 b3 H5)))
abbrev k18:Sk:=[(0,.v)]
def B26 (P:PT):Y k18:=fun x0 H=>
  A 8 [x0,(int .u64 9973)] H (fun v1 H2=>B25 P v1 H2)
def B27 (P:PT):Y k3:=fun H=>
  P (bool true) H
def B28 (P:PT):Y k18:=fun x0 H=>
  A 7 [x0] H (fun v1 H2=>asB v1 (fun v3=>pif v3 (B27 P H2) (B26 P x0 H2)))
def B29 (P:PT):Y k18:=fun x0 H=>
  B28 P x0 H
def code:Code:=(.seq (R 0 2) (.seq (.seq (R 1 12) (.cond (.tmp 25) (.seq (R 2 52) .ret) .skip)) (.seq (R 3 14) (.seq (R 4 30) (.seq (.seq (R 5 124) (.block 0 (.loop (.seq (.seq (R 6 2000) (.cond (.tmp 36) .skip (.exit 0))) (.seq (.block 1 (.seq (R 8 8008) (.seq (R 9 16018) (.seq (.seq (R 10 64076) (.cond (.tmp 51) (R 11 128154) .skip)) (.seq (R 12 64078) (.seq (R 13 128158) (.seq (.seq (R 14 512636) (.cond (.tmp 89) (.seq (R 15 2050548) .ret) .skip)) (R 16 256319)))))))) (R 7 2003)))))) (.seq (R 17 126) (.seq (R 18 254) (.seq (R 19 510) (.seq (R 20 1022) (.seq (.seq (R 21 4092) (.cond (.tmp 130) (.seq (R 22 16372) .ret) .skip)) (.seq (.seq (R 23 8188) (.cond (.tmp 142) (.seq (R 24 32756) .ret) .skip)) (.seq (R 25 8190) (.seq (R 26 16382) (.seq (R 27 32766) .ret))))))))))))))
theorem body:Tryz.f3.body=some code:=by kernel_rfl
theorem main P:Z 169 k18 (B29 P) code (ret P):=
  (r_seq (b (E k18 (B28 P))) (r_seq (r_seq (b (cnd 25 (E k3 (B27 P)) (E k18 (B26 P)))) (r_cond rfl (r_seq (b (ret P)) r_ret) r_skip)) (r_seq (b (E k17 (B25 P))) (r_seq (b (E k16 (B24 P))) (r_seq (r_seq (b (E k10 (L12 P))) (r_block (rL (l12 P) (fun N12=>(r_seq (r_seq (b (cnd 36 (E k10 (B22 P N12)) (E k9 (B11 P)))) (r_cond rfl r_skip (r_exit (fun _ _ h=>h)))) (r_seq (r_block (r_seq (b (E k15 (B21 P N12))) (r_seq (b (E k14 (B20 P N12))) (r_seq (r_seq (b (cnd 51 (E k15 (B19 P N12)) (E k14 (B18 P N12)))) (r_cond rfl (b (E k14 (B18 P N12))) r_skip)) (r_seq (b (E k13 (B17 P N12))) (r_seq (b (E k12 (B16 P N12))) (r_seq (r_seq (b (cnd 89 (E k3 (B15 P N12)) (E k11 (B14 P N12)))) (r_cond rfl (r_seq (b (ret P)) r_ret) r_skip)) (b (E k10 (B13 P N12)))))))))) (b (E k10 N12)))))))) (r_seq (b (E k8 (B10 P))) (r_seq (b (E k7 (B9 P))) (r_seq (b (E k6 (B8 P))) (r_seq (b (E k5 (B7 P))) (r_seq (r_seq (b (cnd 130 (E k3 (B6 P)) (E k4 (B5 P)))) (r_cond rfl (r_seq (b (ret P)) r_ret) r_skip)) (r_seq (r_seq (b (cnd 142 (E k3 (B4 P)) (E k2 (B3 P)))) (r_cond rfl (r_seq (b (ret P)) r_ret) r_skip)) (r_seq (b (E k1 (B2 P))) (r_seq (b (E k0 (B1 P))) (r_seq (b (ret P)) r_ret))))))))))))))
theorem ac (P:PT) (x0:Value) (H:AHeap) (h:B29 P x0 H):A 3 [x0] H P:=
  r_fn T0_ok (c:=code) (n:=169) Tryz.func3 body (by kernel_rfl) (main P) (En_mk (x0,()) (by kernel_rfl) ⟨by kernel_rfl,trivial⟩ h)

end F3
namespace F7
abbrev E:=En 6
def O (k:Nat):=ob Tryz.f7 (pth k)
abbrev R (i k:Nat):Code:=.region i ⟨O k⟩ false
def ret (P:PT):EP:=retE T0 6 Tryz.f7 P
abbrev k0:Sk:=[(0,.v)]
def B1 (P:PT):Y k0:=fun x0 H=>
  lenK x0 (fun n1=>P (bool (decide (((n1:Int):Int)>4096))) H)
def B2 (P:PT):Y k0:=fun x0 H=>
  B1 P x0 H
def code:Code:=(.seq (R 0 2) (.seq (R 1 6) .ret))
theorem body:Tryz.f7.body=some code:=by kernel_rfl
theorem main P:Z 6 k0 (B2 P) code (ret P):=
  (r_seq (b (E k0 (B1 P))) (r_seq (b (ret P)) r_ret))
theorem ac (P:PT) (x0:Value) (H:AHeap) (h:B2 P x0 H):A 7 [x0] H P:=
  r_fn T0_ok (c:=code) (n:=6) Tryz.func7 body (by kernel_rfl) (main P) (En_mk (x0,()) (by kernel_rfl) ⟨by kernel_rfl,trivial⟩ h)

end F7
namespace F8
abbrev E:=En 38
def O (k:Nat):=ob Tryz.f8 (pth k)
abbrev R (i k:Nat):Code:=.region i ⟨O k⟩ false
def ret (P:PT):EP:=retE T0 38 Tryz.f8 P
abbrev k0:Sk:=[(5,.v)]
def B1 (P:PT):Y k0:=fun x5 H=>
  P x5 H
abbrev k1:Sk:=[(0,.v),(5,.v),(6,J)]
def o3:=O 467
def B3 (P:PT) (N2:Y k1):Y k1:=fun x0 x5 x6 H=>
  N2 x0 x5 (i64.wrap (x6+1)) H
def o4:=O 932
def B4 (P:PT) (N2:Y k1):Y k1:=fun x0 x5 x6 H=>
  nilK x5 (fun v1=>asP v1 (fun b2 o3=>ldI .u64 H b2 (o3+2) (fun v4=>idxK x0 x6 1 (fun b5 o6=>ldI .u8 H b5 o6 (fun v7=>nilK x5 (fun v8=>asP v8 (fun b9 o10=>stK H b9 (o10+2) [(int .u64 (u64.wrap ((u64.wrap ((u64.wrap (v4*1099511628211))+(u64.wrap v7)))+5)))] (fun H11=>B3 P N2 x0 x5 x6 H11))))))))
theorem q4 (P:PT) (N2:Y k1):QD Tryz.prog T0 38 o4 [(0,false),(1,false),(2,false),(3,false),(4,false),(5,false),(6,false),(7,false),(8,false),(9,false),(10,false),(11,false),(12,false),(13,false),(14,false),(15,false)] (En 38 k1 (B3 P N2)) k1 (B4 P N2):=fun _ _ _ _ _  => by kernel_rfl
def B5 (P:PT) (N2:Y k1):Y k1:=fun x0 x5 x6 H=>
  lenK x0 (fun n1=>pif (decide ((x6:Int)<(n1:Int))) (B4 P N2 x0 x5 x6 H) (B1 P x5 H))
def L2 (P:PT):Y k1:=fun x0 x5 x6 H=>
  ∃ (I:Y k1) (μ:NTy k1 (AHeap→Nat)),I x0 x5 x6 H∧∀ y0 y5 y6 G,I y0 y5 y6 G→B5 P (fun z0 z5 z6 G'=>I z0 z5 z6 G'∧μ z0 z5 z6 G'<μ y0 y5 y6 G) y0 y5 y6 G
theorem l2 P:LQ k1 (L2 P) (B5 P):=fun ⟨_,_,_,_⟩ _ ⟨I,μ,h0,hI⟩=>⟨apT _ I,apT _ μ,h0,fun ⟨_,_,_,_⟩ _ h=>hI _ _ _ _  h⟩
abbrev k2:Sk:=[(0,.v),(5,.v)]
def o6:=O 28
def B6 (P:PT):Y k2:=fun x0 x5 H=>
  L2 P x0 x5 0 H
abbrev k3:Sk:=[(0,.v),(1,.i .u64)]
def B7 (P:PT):Y k3:=fun x0 x1 H=>
  lenK x0 (fun n1=>pif (Value.oneCell' x0) (newK H [x0,(I 0),(int .u64 (u64.wrap ((u64.wrap (x1*8317))+(u64.wrap (n1:Int)))))] 67 (fun b2 H3=>B6 P x0 (pointer (some ⟨b2,0,none⟩)) H3)) False)
def B8 (P:PT):Y k3:=fun x0 x1 H=>
  B7 P x0 x1 H
def code:Code:=(.seq (R 0 2) (.seq (R 1 6) (.seq (.seq (R 2 28) (.block 0 (.loop (.seq (.seq (R 3 464) (.cond (.tmp 19) .skip (.exit 0))) (.seq (.block 1 (.region 5 ⟨o4⟩ true)) (R 4 467)))))) (.seq (R 6 30) .ret))))
theorem body:Tryz.f8.body=some code:=by kernel_rfl
theorem main P:Z 38 k3 (B8 P) code (ret P):=
  (r_seq (b (E k3 (B7 P))) (r_seq (b (E k2 (B6 P))) (r_seq (r_seq (b (E k1 (L2 P))) (r_block (rL (l2 P) (fun N2=>(r_seq (r_seq (b (cnd 19 (E k1 (B4 P N2)) (E k0 (B1 P)))) (r_cond rfl r_skip (r_exit (fun _ _ h=>h)))) (r_seq (r_block (rD T0_ok mixed [(0,false),(1,false),(2,false),(3,false),(4,false),(5,false),(6,false),(7,false),(8,false),(9,false),(10,false),(11,false),(12,false),(13,false),(14,false),(15,false)] (by kernel_rfl) (q4 P N2))) (b (E k1 N2)))))))) (r_seq (b (ret P)) r_ret))))
theorem ac (P:PT) (x0:Value) (x1:Int) (H:AHeap) (h:B8 P x0 x1 H):A 8 [x0,(int .u64 x1)] H P:=
  r_fn T0_ok (c:=code) (n:=38) Tryz.func8 body (by kernel_rfl) (main P) (En_mk (x0,x1,()) (by kernel_rfl) ⟨by kernel_rfl,by kernel_rfl,trivial⟩ h)

end F8
namespace F9
abbrev E:=En 58
def O (k:Nat):=ob Tryz.f9 (pth k)
abbrev R (i k:Nat):Code:=.region i ⟨O k⟩ false
def ret (P:PT):EP:=retE T0 58 Tryz.f9 P
abbrev k0:Sk:=[(1,J),(5,J)]
def B1 (P:PT):Y k0:=fun x1 x5 H=>
  nzK x1 (P (I (Int.tmod x5 x1)) H)
abbrev k1:Sk:=[(0,.v),(1,J),(5,J)]
def B2 (P:PT):Y k1:=fun x0 x1 x5 H=>
  nilK x0 (fun v1=>asP v1 (fun b2 o3=>li H b2 (o3+1) (fun v4=>nilK x0 (fun v5=>asP v5 (fun b6 o7=>stK H b6 (o7+1) [(I (i64.wrap (v4+1)))] (fun H8=>B1 P x1 x5 H8))))))
def o3:=O 500
def B3 (P:PT):Y k1:=fun x0 x1 x5 H=>
  nilK x0 (fun v1=>asP v1 (fun b2 o3=>ld1 H b2 o3 (fun v4=>nilK x0 (fun v5=>asP v5 (fun b6 o7=>li H b6 (o7+1) (fun v8=>idxK v4 v8 1 (fun b9 o10=>ldI .u8 H b9 o10 (fun v11=>B2 P x0 x1 (i64.wrap (x5+(i64.wrap v11))) H))))))))
theorem q3 (P:PT):QD Tryz.prog T0 58 o3 [(0,false),(1,false),(2,false),(3,false),(4,false),(5,false),(6,false),(7,false),(8,false),(9,false),(10,false),(11,false),(12,false),(13,false)] (En 58 k1 (B2 P)) k1 (B3 P):=fun _ _ _ _ _  => by kernel_rfl
def o4:=O 124
def B4 (P:PT):Y k1:=fun x0 x1 x5 H=>
  nilK x0 (fun v1=>asP v1 (fun b2 o3=>li H b2 (o3+1) (fun v4=>nilK x0 (fun v5=>asP v5 (fun b6 o7=>ld1 H b6 o7 (fun v8=>lenK v8 (fun n9=>pif (decide ((v4:Int)<(n9:Int))) (B3 P x0 x1 x5 H) (B1 P x1 x5 H))))))))
theorem q4 (P:PT):QD Tryz.prog T0 58 o4 [(0,false),(1,false),(2,false),(3,false),(4,false),(5,false),(6,false),(7,false),(8,false),(9,false)] (cnd 33 (En 58 k1 (B3 P)) (En 58 k0 (B1 P))) k1 (B4 P):=fun _ _ _ _ _  => by kernel_rfl
abbrev k2:Sk:=[(0,.v),(1,J)]
def B5 (P:PT):Y k2:=fun x0 x1 H=>
  nilK x0 (fun v1=>asP v1 (fun b2 o3=>ldI .u64 H b2 (o3+2) (fun v4=>((0:Int)≤33)∧(B4 P x0 x1 (i64.wrap (u64.wrap (BitVec.ofInt 64 (Int.fdiv v4 (2^(min (Int.toNat 33) 64)))&&&BitVec.ofInt 64 16777215).toNat)) H))))
def B6 (P:PT):Y k2:=fun x0 x1 H=>
  nilK x0 (fun v1=>asP v1 (fun b2 o3=>ldI .u64 H b2 (o3+2) (fun v4=>nilK x0 (fun v5=>asP v5 (fun b6 o7=>stK H b6 (o7+2) [(int .u64 (u64.wrap ((u64.wrap (v4*6364136223846793005))+1442695040888963407)))] (fun H8=>B5 P x0 x1 H8))))))
abbrev k3:Sk:=[]
def o7:=O 52
def B7 (P:PT):Y k3:=fun H=>
  P (I 0) H
def B8 (P:PT):Y k2:=fun x0 x1 H=>
  pif (decide ((x1:Int)<1)) (B7 P H) (B6 P x0 x1 H)
def B9 (P:PT):Y k2:=fun x0 x1 H=>
  B8 P x0 x1 H
def code:Code:=(.seq (R 0 2) (.seq (.seq (R 1 12) (.cond (.tmp 7) (.seq (R 2 52) .ret) .skip)) (.seq (R 3 14) (.seq (R 4 30) (.seq (.seq (.region 5 ⟨o4⟩ true) (.cond (.tmp 33) (.seq (.region 6 ⟨o3⟩ true) (R 7 501)) .skip)) (.seq (R 8 126) .ret))))))
theorem body:Tryz.f9.body=some code:=by kernel_rfl
theorem main P:Z 58 k2 (B9 P) code (ret P):=
  (r_seq (b (E k2 (B8 P))) (r_seq (r_seq (b (cnd 7 (E k3 (B7 P)) (E k2 (B6 P)))) (r_cond rfl (r_seq (b (ret P)) r_ret) r_skip)) (r_seq (b (E k2 (B5 P))) (r_seq (b (E k1 (B4 P))) (r_seq (r_seq (rD T0_ok mixed [(0,false),(1,false),(2,false),(3,false),(4,false),(5,false),(6,false),(7,false),(8,false),(9,false)] (by kernel_rfl) (q4 P)) (r_cond rfl (r_seq (rD T0_ok mixed [(0,false),(1,false),(2,false),(3,false),(4,false),(5,false),(6,false),(7,false),(8,false),(9,false),(10,false),(11,false),(12,false),(13,false)] (by kernel_rfl) (q3 P)) (b (E k0 (B1 P)))) r_skip)) (r_seq (b (ret P)) r_ret))))))
theorem ac (P:PT) (x0:Value) (x1:Int) (H:AHeap) (h:B9 P x0 x1 H):A 9 [x0,(I x1)] H P:=
  r_fn T0_ok (c:=code) (n:=58) Tryz.func9 body (by kernel_rfl) (main P) (En_mk (x0,x1,()) (by kernel_rfl) ⟨by kernel_rfl,by kernel_rfl,trivial⟩ h)

end F9
namespace F10
abbrev E:=En 34
def O (k:Nat):=ob Tryz.f10 (pth k)
abbrev R (i k:Nat):Code:=.region i ⟨O k⟩ false
def ret (P:PT):EP:=retE T0 34 Tryz.f10 P
abbrev k0:Sk:=[(3,.x),(4,.x),(5,.x),(6,.x)]
def B1 (P:PT):Y k0:=fun x3 x4 x5 x6 H=>
  li H x3 0 (fun v1=>A 57 [(I (i64.wrap (v1+2))),(func (.func 58) ⟨[]⟩ ⟨[(pointer (some ⟨x3,0,none⟩)),(pointer (some ⟨x4,0,none⟩)),(pointer (some ⟨x5,0,none⟩))]⟩)] H (fun v2 H3=>tup2 v2 (fun v4 v5=>agg2 v4 (fun v6 v7=>asI .i64 v6 (fun v8=>asI .i64 v5 (fun v10=>stK H3 x6 0 [(I v8),v7] (fun H11=>li H11 x6 0 (fun v12=>ld1 H11 x6 1 (fun v13=>P (tuple ⟨[(agg ⟨[(I v12),v13]⟩),(I v10)]⟩) H11)))))))))
abbrev k1:Sk:=[(6,.x)]
def B2 (P:PT):Y k1:=fun x6 H=>
  stK H x6 0 [(I 0),(slice none 0 0)] (fun H1=>li H1 x6 0 (fun v2=>ld1 H1 x6 1 (fun v3=>P (tuple ⟨[(agg ⟨[(I v2),v3]⟩),(I 5)]⟩) H1)))
def B3 (P:PT):Y k0:=fun x3 x4 x5 x6 H=>
  li H x4 0 (fun v1=>li H x5 0 (fun v2=>pif ((v1:Int)==v2) (B2 P x6 H) (B1 P x3 x4 x5 x6 H)))
abbrev k2:Sk:=[(6,.x),(8,J)]
def B4 (P:PT):Y k2:=fun x6 x8 H=>
  stK H x6 0 [(I 0),(slice none 0 0)] (fun H1=>li H1 x6 0 (fun v2=>ld1 H1 x6 1 (fun v3=>P (tuple ⟨[(agg ⟨[(I v2),v3]⟩),(I x8)]⟩) H1)))
abbrev k3:Sk:=[(3,.x),(4,.x),(5,.x),(6,.x),(8,J)]
def B5 (P:PT):Y k3:=fun x3 x4 x5 x6 x8 H=>
  pif ((x8:Int) != 0) (B4 P x6 x8 H) (B3 P x3 x4 x5 x6 H)
def o6:=O 12
def B6 (P:PT):Y k0:=fun x3 x4 x5 x6 H=>
  li H x3 0 (fun v1=>ld1 H x3 1 (fun v2=>li H x3 0 (fun v3=>ld1 H x3 1 (fun v4=>li H x4 0 (fun v5=>A 56 [(agg ⟨[(I v3),v4]⟩),(I v5)] H (fun v6 H7=>asB v6 (fun v8=>(AHeap.le H H7)∧(pif v8 (li H7 x3 0 (fun v9=>ld1 H7 x3 1 (fun v10=>li H7 x5 0 (fun v11=>A 56 [(agg ⟨[(I v9),v10]⟩),(I v11)] H7 (fun v12 H13=>asB v12 (fun v14=>(AHeap.le H7 H13)∧(A 55 [(agg ⟨[(I v1),v2]⟩),(bool v14)] H13 (fun v15 H16=>asI .i64 v15 (fun v17=>B5 P x3 x4 x5 x6 v17 H16))))))))) (A 55 [(agg ⟨[(I v1),v2]⟩),(bool false)] H7 (fun v18 H19=>asI .i64 v18 (fun v20=>B5 P x3 x4 x5 x6 v20 H19)))))))))))
theorem q6 (P:PT):QD Tryz.prog T0 34 o6 [(0,false),(1,false),(2,false),(3,true),(4,false),(5,false),(6,false),(7,true),(8,false),(9,false),(10,false)] (En 34 k3 (B5 P)) k0 (B6 P):=fun _ _ _ _ _ _  => by kernel_rfl
abbrev k4:Sk:=[(0,.g [.i,.v]),(1,J),(2,J)]
def B7 (P:PT):Y k4:=fun x0a x0b x1 x2 H=>
  newK H [(I x0a),x0b] 31 (fun b1 H2=>newK H2 [(I x1)] 2 (fun b3 H4=>newK H4 [(I x2)] 2 (fun b5 H6=>newK H6 [(I 0),(slice none 0 0)] 31 (fun b7 H8=>B6 P b1 b3 b5 b7 H8))))
def code:Code:=(.seq (R 0 2) (.seq (.seq (.region 1 ⟨o6⟩ true) (.seq (R 2 26) (.cond (.tmp 20) (.seq (R 3 108) .ret) .skip))) (.seq (.seq (R 4 28) (.cond (.tmp 25) (.seq (R 5 116) .ret) .skip)) (.seq (R 6 30) .ret))))
theorem body:Tryz.f10.body=some code:=by kernel_rfl
theorem main P:Z 34 k4 (B7 P) code (ret P):=
  (r_seq (b (E k0 (B6 P))) (r_seq (r_seq (rD T0_ok mixed [(0,false),(1,false),(2,false),(3,true),(4,false),(5,false),(6,false),(7,true),(8,false),(9,false),(10,false)] (by kernel_rfl) (q6 P)) (r_seq (b (cnd 20 (E k2 (B4 P)) (E k0 (B3 P)))) (r_cond rfl (r_seq (b (ret P)) r_ret) r_skip))) (r_seq (r_seq (b (cnd 25 (E k1 (B2 P)) (E k0 (B1 P)))) (r_cond rfl (r_seq (b (ret P)) r_ret) r_skip)) (r_seq (b (ret P)) r_ret))))
theorem ac (P:PT) (x0a:Int) (x0b:Value) (x1 x2:Int) (H:AHeap) (h:B7 P x0a x0b x1 x2 H):A 10 [(agg ⟨[(I x0a),x0b]⟩),(I x1),(I x2)] H P:=
  r_fn T0_ok (c:=code) (n:=34) Tryz.func10 body (by kernel_rfl) (main P) (En_mk (x0a,x0b,x1,x2,()) (by kernel_rfl) ⟨by kernel_rfl,by kernel_rfl,by kernel_rfl,trivial⟩ h)

end F10
namespace F11
abbrev E:=En 93
def O (k:Nat):=ob Tryz.f11 (pth k)
abbrev R (i k:Nat):Code:=.region i ⟨O k⟩ false
def ret (P:PT):EP:=retE T0 93 Tryz.f11 P
abbrev k0:Sk:=[(3,.x),(6,.x),(9,.v)]
def B1 (P:PT):Y k0:=fun x3 x6 x9 H=>
  li H x3 0 (fun v1=>A 60 [(I (i64.wrap (v1+2))),x9] H (fun v2 H3=>agg2 v2 (fun v4 v5=>asI .i64 v4 (fun v6=>stK H3 x6 0 [(I v6),v5] (fun H8=>li H8 x6 0 (fun v9=>ld1 H8 x6 1 (fun v10=>P (tuple ⟨[(agg ⟨[(I v9),v10]⟩),(I 0)]⟩) H8)))))))
abbrev k1:Sk:=[(1,J),(2,J),(3,.x),(6,.x),(9,.v),(10,J)]
def o3:=O 4051
def B3 (P:PT) (N2:Y k1):Y k1:=fun x1 x2 x3 x6 x9 x10 H=>
  N2 x1 x2 x3 x6 x9 (i64.wrap (x10+1)) H
abbrev k2:Sk:=[(1,J),(2,J),(3,.x),(6,.x),(9,.v),(10,J),(11,.x)]
def B4 (P:PT) (N2:Y k1):Y k2:=fun x1 x2 x3 x6 x9 x10 x11 H=>
  li H x11 0 (fun v1=>li H x3 0 (fun v2=>li H x11 1 (fun v3=>li H x3 0 (fun v4=>newK H [(I v1),(I v2),(I v3),(I v4)] 28 (fun b5 H6=>apK T0 28 H6 x9 (slice (some ⟨b5,0,none⟩) 2 (2+1)) (fun v7 H8=>B3 P N2 x1 x2 x3 x6 v7 x10 H8))))))
def B5 (P:PT) (N2:Y k1):Y k2:=fun x1 x2 x3 x6 x9 x10 x11 H=>
  li H x11 0 (fun v1=>li H x3 0 (fun v2=>li H x11 1 (fun v3=>li H x3 0 (fun v4=>newK H [(I v1),(I (i64.wrap (v2+1))),(I v3),(I (i64.wrap (v4+1)))] 28 (fun b5 H6=>apK T0 28 H6 x9 (slice (some ⟨b5,0,none⟩) 2 (2+1)) (fun v7 H8=>B3 P N2 x1 x2 x3 x6 v7 x10 H8))))))
def B6 (P:PT) (N2:Y k1):Y k2:=fun x1 x2 x3 x6 x9 x10 x11 H=>
  li H x11 0 (fun v1=>li H x11 1 (fun v2=>newK H [(I v1),(I v2)] 28 (fun b3 H4=>apK T0 28 H4 x9 (slice (some ⟨b3,0,none⟩) 1 (1+1)) (fun v5 H6=>B3 P N2 x1 x2 x3 x6 v5 x10 H6))))
abbrev k3:Sk:=[(1,J),(2,J),(3,.x),(6,.x),(9,.v),(10,J),(11,.x),(49,J)]
def B7 (P:PT) (N2:Y k1):Y k3:=fun x1 x2 x3 x6 x9 x10 x11 x49 H=>
  pif ((x49:Int)==x2) (B5 P N2 x1 x2 x3 x6 x9 x10 x11 H) (B6 P N2 x1 x2 x3 x6 x9 x10 x11 H)
def B8 (P:PT) (N2:Y k1):Y k3:=fun x1 x2 x3 x6 x9 x10 x11 x49 H=>
  pif ((x49:Int)==x1) (B4 P N2 x1 x2 x3 x6 x9 x10 x11 H) (B7 P N2 x1 x2 x3 x6 x9 x10 x11 x49 H)
def B9 (P:PT) (N2:Y k1):Y k2:=fun x1 x2 x3 x6 x9 x10 x11 H=>
  B8 P N2 x1 x2 x3 x6 x9 x10 x11 x10 H
def B10 (P:PT) (N2:Y k1):Y k1:=fun x1 x2 x3 x6 x9 x10 H=>
  ld1 H x3 1 (fun v1=>idxK v1 x10 2 (fun b2 o3=>li H b2 o3 (fun v4=>li H b2 (o3+1) (fun v5=>newK H [(I 0),(I 0)] 28 (fun b6 H7=>stK H7 b6 0 [(I v4),(I v5)] (fun H8=>B9 P N2 x1 x2 x3 x6 x9 x10 b6 H8))))))
def B11 (P:PT) (N2:Y k1):Y k1:=fun x1 x2 x3 x6 x9 x10 H=>
  ld1 H x3 1 (fun v1=>lenK v1 (fun n2=>pif (decide ((x10:Int)<(n2:Int))) (B10 P N2 x1 x2 x3 x6 x9 x10 H) (B1 P x3 x6 x9 H)))
def L2 (P:PT):Y k1:=fun x1 x2 x3 x6 x9 x10 H=>
  ∃ (I:Y k1) (μ:NTy k1 (AHeap→Nat)),I x1 x2 x3 x6 x9 x10 H∧∀ y1 y2 y3 y6 y9 y10 G,I y1 y2 y3 y6 y9 y10 G→B11 P (fun z1 z2 z3 z6 z9 z10 G'=>I z1 z2 z3 z6 z9 z10 G'∧μ z1 z2 z3 z6 z9 z10 G'<μ y1 y2 y3 y6 y9 y10 G) y1 y2 y3 y6 y9 y10 G
theorem l2 P:LQ k1 (L2 P) (B11 P):=fun ⟨_,_,_,_,_,_,_⟩ _ ⟨I,μ,h0,hI⟩=>⟨apT _ I,apT _ μ,h0,fun ⟨_,_,_,_,_,_,_⟩ _ h=>hI _ _ _ _ _ _ _  h⟩
abbrev k4:Sk:=[(1,J),(2,J),(3,.x),(6,.x),(9,.v)]
def B12 (P:PT):Y k4:=fun x1 x2 x3 x6 x9 H=>
  L2 P x1 x2 x3 x6 x9 0 H
abbrev k5:Sk:=[(1,J),(2,J),(3,.x),(6,.x)]
def B13 (P:PT):Y k5:=fun x1 x2 x3 x6 H=>
  li H x3 0 (fun v1=>li H x3 0 (fun v2=>newK H [(I v1),(I (i64.wrap (v2+1)))] 28 (fun b3 H4=>B12 P x1 x2 x3 x6 (slice (some ⟨b3,0,none⟩) 1 (1+1)) H4)))
abbrev k6:Sk:=[(6,.x)]
def B14 (P:PT):Y k6:=fun x6 H=>
  stK H x6 0 [(I 0),(slice none 0 0)] (fun H1=>li H1 x6 0 (fun v2=>ld1 H1 x6 1 (fun v3=>P (tuple ⟨[(agg ⟨[(I v2),v3]⟩),(I 3)]⟩) H1)))
def B15 (P:PT):Y k5:=fun x1 x2 x3 x6 H=>
  li H x3 0 (fun v1=>pif (decide ((i64.wrap (v1+2):Int)>20)) (B14 P x6 H) (B13 P x1 x2 x3 x6 H))
def B16 (P:PT):Y k6:=fun x6 H=>
  stK H x6 0 [(I 0),(slice none 0 0)] (fun H1=>li H1 x6 0 (fun v2=>ld1 H1 x6 1 (fun v3=>P (tuple ⟨[(agg ⟨[(I v2),v3]⟩),(I 5)]⟩) H1)))
def B17 (P:PT):Y k5:=fun x1 x2 x3 x6 H=>
  pif ((x1:Int)==x2) (B16 P x6 H) (B15 P x1 x2 x3 x6 H)
abbrev k7:Sk:=[(6,.x),(8,J)]
def B18 (P:PT):Y k7:=fun x6 x8 H=>
  stK H x6 0 [(I 0),(slice none 0 0)] (fun H1=>li H1 x6 0 (fun v2=>ld1 H1 x6 1 (fun v3=>P (tuple ⟨[(agg ⟨[(I v2),v3]⟩),(I x8)]⟩) H1)))
abbrev k8:Sk:=[(1,J),(2,J),(3,.x),(6,.x),(8,J)]
def B19 (P:PT):Y k8:=fun x1 x2 x3 x6 x8 H=>
  pif ((x8:Int) != 0) (B18 P x6 x8 H) (B17 P x1 x2 x3 x6 H)
def B20 (P:PT):Y k5:=fun x1 x2 x3 x6 H=>
  li H x3 0 (fun v1=>ld1 H x3 1 (fun v2=>newK H [(I x1),(I x2)] 2 (fun b3 H4=>A 59 [(agg ⟨[(I v1),v2]⟩),(slice (some ⟨b3,0,none⟩) 2 (2+1))] H4 (fun v5 H6=>asI .i64 v5 (fun v7=>B19 P x1 x2 x3 x6 v7 H6)))))
abbrev k9:Sk:=[(0,.g [.i,.v]),(1,J),(2,J)]
def B21 (P:PT):Y k9:=fun x0a x0b x1 x2 H=>
  newK H [(I x0a),x0b] 31 (fun b1 H2=>newK H2 [(I 0),(slice none 0 0)] 31 (fun b3 H4=>B20 P x1 x2 b1 b3 H4))
def code:Code:=(.seq (R 0 2) (.seq (.seq (R 1 12) (.seq (R 2 26) (.cond (.tmp 18) (.seq (R 3 108) .ret) .skip))) (.seq (.seq (R 4 28) (.cond (.tmp 23) (.seq (R 5 116) .ret) .skip)) (.seq (.seq (R 6 60) (.cond (.tmp 28) (.seq (R 7 244) .ret) .skip)) (.seq (R 8 62) (.seq (.seq (R 9 252) (.block 0 (.loop (.seq (.seq (R 10 4048) (.cond (.tmp 41) .skip (.exit 0))) (.seq (.block 1 (.seq (R 12 16200) (.seq (R 13 32402) (.block 2 (.seq (R 15 129612) (.cond (.tmp 54) (R 16 259226) (.seq (R 17 518454) (.cond (.tmp 70) (R 18 1036910) (R 14 1036911))))))))) (R 11 4051)))))) (.seq (R 19 254) .ret)))))))
theorem body:Tryz.f11.body=some code:=by kernel_rfl
theorem main P:Z 93 k9 (B21 P) code (ret P):=
  (r_seq (b (E k5 (B20 P))) (r_seq (r_seq (b (E k8 (B19 P))) (r_seq (b (cnd 18 (E k7 (B18 P)) (E k5 (B17 P)))) (r_cond rfl (r_seq (b (ret P)) r_ret) r_skip))) (r_seq (r_seq (b (cnd 23 (E k6 (B16 P)) (E k5 (B15 P)))) (r_cond rfl (r_seq (b (ret P)) r_ret) r_skip)) (r_seq (r_seq (b (cnd 28 (E k6 (B14 P)) (E k5 (B13 P)))) (r_cond rfl (r_seq (b (ret P)) r_ret) r_skip)) (r_seq (b (E k4 (B12 P))) (r_seq (r_seq (b (E k1 (L2 P))) (r_block (rL (l2 P) (fun N2=>(r_seq (r_seq (b (cnd 41 (E k1 (B10 P N2)) (E k0 (B1 P)))) (r_cond rfl r_skip (r_exit (fun _ _ h=>h)))) (r_seq (r_block (r_seq (b (E k2 (B9 P N2))) (r_seq (b (E k3 (B8 P N2))) (r_block (r_seq (b (cnd 54 (E k2 (B4 P N2)) (E k3 (B7 P N2)))) (r_cond rfl (b (E k1 (B3 P N2))) (r_seq (b (cnd 70 (E k2 (B5 P N2)) (E k2 (B6 P N2)))) (r_cond rfl (b (E k1 (B3 P N2))) (b (E k1 (B3 P N2))))))))))) (b (E k1 N2)))))))) (r_seq (b (ret P)) r_ret)))))))
theorem ac (P:PT) (x0a:Int) (x0b:Value) (x1 x2:Int) (H:AHeap) (h:B21 P x0a x0b x1 x2 H):A 11 [(agg ⟨[(I x0a),x0b]⟩),(I x1),(I x2)] H P:=
  r_fn T0_ok (c:=code) (n:=93) Tryz.func11 body (by kernel_rfl) (main P) (En_mk (x0a,x0b,x1,x2,()) (by kernel_rfl) ⟨by kernel_rfl,by kernel_rfl,by kernel_rfl,trivial⟩ h)

end F11
namespace F12
abbrev E:=En 38
def O (k:Nat):=ob Tryz.f12 (pth k)
abbrev R (i k:Nat):Code:=.region i ⟨O k⟩ false
def ret (P:PT):EP:=retE T0 38 Tryz.f12 P
abbrev k0:Sk:=[]
def B1 (P:PT):Y k0:=fun H=>
  P (bool true) H
abbrev k1:Sk:=[(2,.x),(3,.x),(5,J)]
def o3:=O 467
def B3 (P:PT) (N2:Y k1):Y k1:=fun x2 x3 x5 H=>
  N2 x2 x3 (i64.wrap (x5+1)) H
def B4 (P:PT) (N2:Y k1):Y k0:=fun H=>
  P (bool false) H
def o5:=O 1864
def B5 (P:PT) (N2:Y k1):Y k1:=fun x2 x3 x5 H=>
  ld1 H x2 1 (fun v1=>idxK v1 x5 2 (fun b2 o3=>li H b2 o3 (fun v4=>li H b2 (o3+1) (fun v5=>ld1 H x3 1 (fun v6=>idxK v6 x5 2 (fun b7 o8=>li H b7 o8 (fun v9=>li H b7 (o8+1) (fun v10=>pif (!(((v4:Int)==v9)&&((v5:Int)==v10))) (B4 P N2 H) (B3 P N2 x2 x3 x5 H)))))))))
theorem q5 (P:PT) (N2:Y k1):QD Tryz.prog T0 38 o5 [(0,false),(1,false),(2,false),(3,false),(4,false),(5,false),(6,false),(7,false),(8,false),(9,false),(10,false)] (cnd 37 (En 38 k0 (B4 P N2)) (En 38 k1 (B3 P N2))) k1 (B5 P N2):=fun _ _ _ _ _  => by kernel_rfl
def B6 (P:PT) (N2:Y k1):Y k1:=fun x2 x3 x5 H=>
  ld1 H x2 1 (fun v1=>lenK v1 (fun n2=>pif (decide ((x5:Int)<(n2:Int))) (B5 P N2 x2 x3 x5 H) (B1 P H)))
def L2 (P:PT):Y k1:=fun x2 x3 x5 H=>
  ∃ (I:Y k1) (μ:NTy k1 (AHeap→Nat)),I x2 x3 x5 H∧∀ y2 y3 y5 G,I y2 y3 y5 G→B6 P (fun z2 z3 z5 G'=>I z2 z3 z5 G'∧μ z2 z3 z5 G'<μ y2 y3 y5 G) y2 y3 y5 G
theorem l2 P:LQ k1 (L2 P) (B6 P):=fun ⟨_,_,_,_⟩ _ ⟨I,μ,h0,hI⟩=>⟨apT _ I,apT _ μ,h0,fun ⟨_,_,_,_⟩ _ h=>hI _ _ _ _  h⟩
abbrev k2:Sk:=[(2,.x),(3,.x)]
def B7 (P:PT):Y k2:=fun x2 x3 H=>
  L2 P x2 x3 0 H
def o8:=O 52
def B8 (P:PT):Y k0:=fun H=>
  P (bool false) H
def B9 (P:PT):Y k2:=fun x2 x3 H=>
  li H x2 0 (fun v1=>li H x3 0 (fun v2=>pif ((v1:Int) != v2) (B8 P H) (ld1 H x2 1 (fun v3=>lenK v3 (fun n4=>ld1 H x3 1 (fun v5=>lenK v5 (fun n6=>pif (((n4:Int):Int) != (n6:Int)) (B8 P H) (B7 P x2 x3 H))))))))
abbrev k3:Sk:=[(0,.g [.i,.v]),(1,.g [.i,.v])]
def B10 (P:PT):Y k3:=fun x0a x0b x1a x1b H=>
  newK H [(I x0a),x0b] 31 (fun b1 H2=>newK H2 [(I x1a),x1b] 31 (fun b3 H4=>B9 P b1 b3 H4))
def code:Code:=(.seq (R 0 2) (.seq (.seq (R 1 12) (.cond (.tmp 19) (.seq (R 2 52) .ret) .skip)) (.seq (.seq (R 3 28) (.block 0 (.loop (.seq (.seq (R 4 464) (.cond (.tmp 24) .skip (.exit 0))) (.seq (.block 1 (.seq (.region 6 ⟨o5⟩ true) (.cond (.tmp 37) (.seq (R 7 7460) .ret) .skip))) (R 5 467)))))) (.seq (R 8 30) .ret))))
theorem body:Tryz.f12.body=some code:=by kernel_rfl
theorem main P:Z 38 k3 (B10 P) code (ret P):=
  (r_seq (b (E k2 (B9 P))) (r_seq (r_seq (b (cnd 19 (E k0 (B8 P)) (E k2 (B7 P)))) (r_cond rfl (r_seq (b (ret P)) r_ret) r_skip)) (r_seq (r_seq (b (E k1 (L2 P))) (r_block (rL (l2 P) (fun N2=>(r_seq (r_seq (b (cnd 24 (E k1 (B5 P N2)) (E k0 (B1 P)))) (r_cond rfl r_skip (r_exit (fun _ _ h=>h)))) (r_seq (r_block (r_seq (rD T0_ok mixed [(0,false),(1,false),(2,false),(3,false),(4,false),(5,false),(6,false),(7,false),(8,false),(9,false),(10,false)] (by kernel_rfl) (q5 P N2)) (r_cond rfl (r_seq (b (ret P)) r_ret) r_skip))) (b (E k1 N2)))))))) (r_seq (b (ret P)) r_ret))))
theorem ac (P:PT) (x0a:Int) (x0b:Value) (x1a:Int) (x1b:Value) (H:AHeap) (h:B10 P x0a x0b x1a x1b H):A 12 [(agg ⟨[(I x0a),x0b]⟩),(agg ⟨[(I x1a),x1b]⟩)] H P:=
  r_fn T0_ok (c:=code) (n:=38) Tryz.func12 body (by kernel_rfl) (main P) (En_mk (x0a,x0b,x1a,x1b,()) (by kernel_rfl) ⟨by kernel_rfl,by kernel_rfl,trivial⟩ h)

end F12
namespace F13
abbrev E:=En 25
def O (k:Nat):=ob Tryz.f13 (pth k)
abbrev R (i k:Nat):Code:=.region i ⟨O k⟩ false
def ret (P:PT):EP:=retE T0 25 Tryz.f13 P
abbrev k0:Sk:=[(1,.x)]
def B1 (P:PT):Y k0:=fun x1 H=>
  li H x1 0 (fun v1=>ld1 H x1 1 (fun v2=>A 61 [(I v1),v2] H (fun v3 H4=>asB v3 (fun v5=>pif v5 (ld1 H4 x1 1 (fun v6=>A 62 [v6,(func (.func 63) ⟨[]⟩ ⟨[]⟩)] H4 (fun v7 H8=>asB v7 (fun v9=>pif v9 (ld1 H8 x1 1 (fun v10=>A 64 [v10,(func (.func 65) ⟨[]⟩ ⟨[]⟩)] H8 (fun v11 H12=>asB v11 (fun v13=>pif v13 (li H12 x1 0 (fun v14=>ld1 H12 x1 1 (fun v15=>A 66 [(I v14),v15] H12 (fun v16 H17=>asB v16 (fun v18=>P (bool v18) H17))))) (P (bool false) H12))))) (P (bool false) H8))))) (P (bool false) H4)))))
abbrev k1:Sk:=[(0,.g [.i,.v])]
def B2 (P:PT):Y k1:=fun x0a x0b H=>
  newK H [(I x0a),x0b] 31 (fun b1 H2=>B1 P b1 H2)
def code:Code:=(.seq (R 0 2) (.seq (R 1 6) .ret))
theorem body:Tryz.f13.body=some code:=by kernel_rfl
theorem main P:Z 25 k1 (B2 P) code (ret P):=
  (r_seq (b (E k0 (B1 P))) (r_seq (b (ret P)) r_ret))
theorem ac (P:PT) (x0a:Int) (x0b:Value) (H:AHeap) (h:B2 P x0a x0b H):A 13 [(agg ⟨[(I x0a),x0b]⟩)] H P:=
  r_fn T0_ok (c:=code) (n:=25) Tryz.func13 body (by kernel_rfl) (main P) (En_mk (x0a,x0b,()) (by kernel_rfl) ⟨by kernel_rfl,trivial⟩ h)

end F13
namespace F14
abbrev E:=En 12
def O (k:Nat):=ob Tryz.f14 (pth k)
abbrev R (i k:Nat):Code:=.region i ⟨O k⟩ false
def ret (P:PT):EP:=retE T0 12 Tryz.f14 P
abbrev k0:Sk:=[(1,.x)]
def B1 (P:PT):Y k0:=fun x1 H=>
  li H x1 0 (fun v1=>ld1 H x1 1 (fun v2=>A 67 [(agg ⟨[(I v1),v2]⟩)] H (fun v3 H4=>asI .i64 v3 (fun v5=>P (tuple ⟨[(I v5),(I 0)]⟩) H4))))
abbrev k1:Sk:=[(4,J)]
def B2 (P:PT):Y k1:=fun x4 H=>
  P (tuple ⟨[(I 0),(I x4)]⟩) H
abbrev k2:Sk:=[(1,.x),(4,J)]
def B3 (P:PT):Y k2:=fun x1 x4 H=>
  pif ((x4:Int) != 0) (B2 P x4 H) (B1 P x1 H)
def B4 (P:PT):Y k0:=fun x1 H=>
  li H x1 0 (fun v1=>ld1 H x1 1 (fun v2=>A 55 [(agg ⟨[(I v1),v2]⟩),(bool true)] H (fun v3 H4=>asI .i64 v3 (fun v5=>B3 P x1 v5 H4))))
abbrev k3:Sk:=[(0,.g [.i,.v])]
def B5 (P:PT):Y k3:=fun x0a x0b H=>
  newK H [(I x0a),x0b] 31 (fun b1 H2=>B4 P b1 H2)
def code:Code:=(.seq (R 0 2) (.seq (.seq (R 1 12) (.seq (R 2 26) (.cond (.tmp 8) (.seq (R 3 108) .ret) .skip))) (.seq (R 4 14) .ret)))
theorem body:Tryz.f14.body=some code:=by kernel_rfl
theorem main P:Z 12 k3 (B5 P) code (ret P):=
  (r_seq (b (E k0 (B4 P))) (r_seq (r_seq (b (E k2 (B3 P))) (r_seq (b (cnd 8 (E k1 (B2 P)) (E k0 (B1 P)))) (r_cond rfl (r_seq (b (ret P)) r_ret) r_skip))) (r_seq (b (ret P)) r_ret)))
theorem ac (P:PT) (x0a:Int) (x0b:Value) (H:AHeap) (h:B5 P x0a x0b H):A 14 [(agg ⟨[(I x0a),x0b]⟩)] H P:=
  r_fn T0_ok (c:=code) (n:=12) Tryz.func14 body (by kernel_rfl) (main P) (En_mk (x0a,x0b,()) (by kernel_rfl) ⟨by kernel_rfl,trivial⟩ h)

end F14
namespace F15
abbrev E:=En 32
def O (k:Nat):=ob Tryz.f15 (pth k)
abbrev R (i k:Nat):Code:=.region i ⟨O k⟩ false
def ret (P:PT):EP:=retE T0 32 Tryz.f15 P
abbrev k0:Sk:=[(5,J)]
def B1 (P:PT):Y k0:=fun x5 H=>
  P (tuple ⟨[(I x5),(I 0)]⟩) H
abbrev k1:Sk:=[(1,.x),(4,.v),(5,J),(6,J)]
def B3 (P:PT) (N2:Y k1):Y k1:=fun x1 x4 x5 x6 H=>
  N2 x1 x4 x5 (i64.wrap (x6+1)) H
def o4:=O 1956
def B4 (P:PT) (N2:Y k1):Y k1:=fun x1 x4 x5 x6 H=>
  li H x1 0 (fun v1=>ld1 H x1 1 (fun v2=>idxK x4 x6 1 (fun b3 o4=>ld1 H b3 o4 (fun v5=>ld1 H x1 1 (fun v6=>lenK v6 (fun n7=>mkR H 8 2 [(I 0)] (n7:Int) (n7:Int) (fun v9 H8=>A 70 [(agg ⟨[(I v1),v2]⟩),v5,v9,(I 0)] H8 (fun v10 H11=>asI .i64 v10 (fun v12=>B3 P N2 x1 x4 (i64.wrap ((i64.wrap (x5*6))*v12)) x6 H11)))))))))
theorem q4 (P:PT) (N2:Y k1):QD Tryz.prog T0 32 o4 [(0,false),(1,false),(2,false),(3,false),(4,false),(5,false),(6,false),(7,false),(8,false),(9,false),(10,false),(11,false),(12,false),(13,false)] (En 32 k1 (B3 P N2)) k1 (B4 P N2):=fun _ _ _ _ _ _  => by kernel_rfl
def B5 (P:PT) (N2:Y k1):Y k1:=fun x1 x4 x5 x6 H=>
  lenK x4 (fun n1=>pif (decide ((x6:Int)<(n1:Int))) (B4 P N2 x1 x4 x5 x6 H) (B1 P x5 H))
def L2 (P:PT):Y k1:=fun x1 x4 x5 x6 H=>
  ∃ (I:Y k1) (μ:NTy k1 (AHeap→Nat)),I x1 x4 x5 x6 H∧∀ y1 y4 y5 y6 G,I y1 y4 y5 y6 G→B5 P (fun z1 z4 z5 z6 G'=>I z1 z4 z5 z6 G'∧μ z1 z4 z5 z6 G'<μ y1 y4 y5 y6 G) y1 y4 y5 y6 G
theorem l2 P:LQ k1 (L2 P) (B5 P):=fun ⟨_,_,_,_,_⟩ _ ⟨I,μ,h0,hI⟩=>⟨apT _ I,apT _ μ,h0,fun ⟨_,_,_,_,_⟩ _ h=>hI _ _ _ _ _  h⟩
abbrev k2:Sk:=[(1,.x),(4,.v),(5,J)]
def B6 (P:PT):Y k2:=fun x1 x4 x5 H=>
  L2 P x1 x4 x5 0 H
abbrev k3:Sk:=[(1,.x)]
def B7 (P:PT):Y k3:=fun x1 H=>
  li H x1 0 (fun v1=>ld1 H x1 1 (fun v2=>A 69 [(agg ⟨[(I v1),v2]⟩)] H (fun v3 H4=>B6 P x1 v3 1 H4)))
abbrev k4:Sk:=[]
def B8 (P:PT):Y k4:=fun H=>
  P (tuple ⟨[(I 0),(I 1)]⟩) H
def B9 (P:PT):Y k3:=fun x1 H=>
  li H x1 0 (fun v1=>ld1 H x1 1 (fun v2=>A 68 [(agg ⟨[(I v1),v2]⟩)] H (fun v3 H4=>asB v3 (fun v5=>pif (!v5) (B8 P H4) (B7 P x1 H4)))))
abbrev k5:Sk:=[(0,.g [.i,.v])]
def B10 (P:PT):Y k5:=fun x0a x0b H=>
  newK H [(I x0a),x0b] 31 (fun b1 H2=>B9 P b1 H2)
def code:Code:=(.seq (R 0 2) (.seq (.seq (R 1 12) (.cond (.tmp 9) (.seq (R 2 52) .ret) .skip)) (.seq (R 3 14) (.seq (.seq (R 4 60) (.block 0 (.loop (.seq (.seq (R 5 976) (.cond (.tmp 15) .skip (.exit 0))) (.seq (.block 1 (.region 7 ⟨o4⟩ true)) (R 6 979)))))) (.seq (R 8 62) .ret)))))
theorem body:Tryz.f15.body=some code:=by kernel_rfl
theorem main P:Z 32 k5 (B10 P) code (ret P):=
  (r_seq (b (E k3 (B9 P))) (r_seq (r_seq (b (cnd 9 (E k4 (B8 P)) (E k3 (B7 P)))) (r_cond rfl (r_seq (b (ret P)) r_ret) r_skip)) (r_seq (b (E k2 (B6 P))) (r_seq (r_seq (b (E k1 (L2 P))) (r_block (rL (l2 P) (fun N2=>(r_seq (r_seq (b (cnd 15 (E k1 (B4 P N2)) (E k0 (B1 P)))) (r_cond rfl r_skip (r_exit (fun _ _ h=>h)))) (r_seq (r_block (rD T0_ok mixed [(0,false),(1,false),(2,false),(3,false),(4,false),(5,false),(6,false),(7,false),(8,false),(9,false),(10,false),(11,false),(12,false),(13,false)] (by kernel_rfl) (q4 P N2))) (b (E k1 N2)))))))) (r_seq (b (ret P)) r_ret)))))
theorem ac (P:PT) (x0a:Int) (x0b:Value) (H:AHeap) (h:B10 P x0a x0b H):A 15 [(agg ⟨[(I x0a),x0b]⟩)] H P:=
  r_fn T0_ok (c:=code) (n:=32) Tryz.func15 body (by kernel_rfl) (main P) (En_mk (x0a,x0b,()) (by kernel_rfl) ⟨by kernel_rfl,trivial⟩ h)

end F15
namespace F16
abbrev E:=En 22
def O (k:Nat):=ob Tryz.f16 (pth k)
abbrev R (i k:Nat):Code:=.region i ⟨O k⟩ false
def ret (P:PT):EP:=retE T0 22 Tryz.f16 P
abbrev k0:Sk:=[(6,J)]
def B1 (P:PT):Y k0:=fun x6 H=>
  P (tuple ⟨[(I x6),(I 0)]⟩) H
abbrev k1:Sk:=[]
def B2 (P:PT):Y k1:=fun H=>
  P (tuple ⟨[(I 0),(I 4)]⟩) H
abbrev k2:Sk:=[(6,J),(7,.b)]
def B3 (P:PT):Y k2:=fun x6 x7 H=>
  pif (!x7) (B2 P H) (B1 P x6 H)
abbrev k3:Sk:=[(1,.x)]
def B4 (P:PT):Y k3:=fun x1 H=>
  li H x1 0 (fun v1=>ld1 H x1 1 (fun v2=>A 71 [(agg ⟨[(I v1),v2]⟩)] H (fun v3 H4=>tup3 v3 (fun v5 v6 v7=>asI .u64 v5 (fun v8=>asI .i64 v6 (fun v9=>asB v7 (fun v10=>B3 P v9 v10 H4)))))))
abbrev k4:Sk:=[(4,J)]
def B5 (P:PT):Y k4:=fun x4 H=>
  P (tuple ⟨[(I 0),(I x4)]⟩) H
abbrev k5:Sk:=[(1,.x),(4,J)]
def B6 (P:PT):Y k5:=fun x1 x4 H=>
  pif ((x4:Int) != 0) (B5 P x4 H) (B4 P x1 H)
def B7 (P:PT):Y k3:=fun x1 H=>
  li H x1 0 (fun v1=>ld1 H x1 1 (fun v2=>A 55 [(agg ⟨[(I v1),v2]⟩),(bool true)] H (fun v3 H4=>asI .i64 v3 (fun v5=>B6 P x1 v5 H4))))
abbrev k6:Sk:=[(0,.g [.i,.v])]
def B8 (P:PT):Y k6:=fun x0a x0b H=>
  newK H [(I x0a),x0b] 31 (fun b1 H2=>B7 P b1 H2)
def code:Code:=(.seq (R 0 2) (.seq (.seq (R 1 12) (.seq (R 2 26) (.cond (.tmp 11) (.seq (R 3 108) .ret) .skip))) (.seq (R 4 14) (.seq (.seq (R 5 60) (.cond (.tmp 20) (.seq (R 6 244) .ret) .skip)) (.seq (R 7 62) .ret)))))
theorem body:Tryz.f16.body=some code:=by kernel_rfl
theorem main P:Z 22 k6 (B8 P) code (ret P):=
  (r_seq (b (E k3 (B7 P))) (r_seq (r_seq (b (E k5 (B6 P))) (r_seq (b (cnd 11 (E k4 (B5 P)) (E k3 (B4 P)))) (r_cond rfl (r_seq (b (ret P)) r_ret) r_skip))) (r_seq (b (E k2 (B3 P))) (r_seq (r_seq (b (cnd 20 (E k1 (B2 P)) (E k0 (B1 P)))) (r_cond rfl (r_seq (b (ret P)) r_ret) r_skip)) (r_seq (b (ret P)) r_ret)))))
theorem ac (P:PT) (x0a:Int) (x0b:Value) (H:AHeap) (h:B8 P x0a x0b H):A 16 [(agg ⟨[(I x0a),x0b]⟩)] H P:=
  r_fn T0_ok (c:=code) (n:=22) Tryz.func16 body (by kernel_rfl) (main P) (En_mk (x0a,x0b,()) (by kernel_rfl) ⟨by kernel_rfl,trivial⟩ h)

end F16
namespace F17
abbrev E:=En 13
def O (k:Nat):=ob Tryz.f17 (pth k)
abbrev R (i k:Nat):Code:=.region i ⟨O k⟩ false
def ret (P:PT):EP:=retE T0 13 Tryz.f17 P
abbrev k0:Sk:=[(1,.x)]
def B1 (P:PT):Y k0:=fun x1 H=>
  li H x1 0 (fun v1=>ld1 H x1 1 (fun v2=>A 73 [(agg ⟨[(I v1),v2]⟩)] H (fun v3 H4=>asI .u64 v3 (fun v5=>A 74 [(int .u64 v5)] H4 (fun v6 H7=>asI .i64 v6 (fun v8=>P (tuple ⟨[(I v8),(I 0)]⟩) H7))))))
abbrev k1:Sk:=[(4,J)]
def B2 (P:PT):Y k1:=fun x4 H=>
  P (tuple ⟨[(I 0),(I x4)]⟩) H
abbrev k2:Sk:=[(1,.x),(4,J)]
def B3 (P:PT):Y k2:=fun x1 x4 H=>
  pif ((x4:Int) != 0) (B2 P x4 H) (B1 P x1 H)
def B4 (P:PT):Y k0:=fun x1 H=>
  li H x1 0 (fun v1=>ld1 H x1 1 (fun v2=>A 72 [(agg ⟨[(I v1),v2]⟩),(bool true),(I 12)] H (fun v3 H4=>asI .i64 v3 (fun v5=>B3 P x1 v5 H4))))
abbrev k3:Sk:=[(0,.g [.i,.v])]
def B5 (P:PT):Y k3:=fun x0a x0b H=>
  newK H [(I x0a),x0b] 31 (fun b1 H2=>B4 P b1 H2)
def code:Code:=(.seq (R 0 2) (.seq (.seq (R 1 12) (.seq (R 2 26) (.cond (.tmp 8) (.seq (R 3 108) .ret) .skip))) (.seq (R 4 14) .ret)))
theorem body:Tryz.f17.body=some code:=by kernel_rfl
theorem main P:Z 13 k3 (B5 P) code (ret P):=
  (r_seq (b (E k0 (B4 P))) (r_seq (r_seq (b (E k2 (B3 P))) (r_seq (b (cnd 8 (E k1 (B2 P)) (E k0 (B1 P)))) (r_cond rfl (r_seq (b (ret P)) r_ret) r_skip))) (r_seq (b (ret P)) r_ret)))
theorem ac (P:PT) (x0a:Int) (x0b:Value) (H:AHeap) (h:B5 P x0a x0b H):A 17 [(agg ⟨[(I x0a),x0b]⟩)] H P:=
  r_fn T0_ok (c:=code) (n:=13) Tryz.func17 body (by kernel_rfl) (main P) (En_mk (x0a,x0b,()) (by kernel_rfl) ⟨by kernel_rfl,trivial⟩ h)

end F17
namespace F18
abbrev E:=En 12
def O (k:Nat):=ob Tryz.f18 (pth k)
abbrev R (i k:Nat):Code:=.region i ⟨O k⟩ false
def ret (P:PT):EP:=retE T0 12 Tryz.f18 P
abbrev k0:Sk:=[(1,.x)]
def B1 (P:PT):Y k0:=fun x1 H=>
  li H x1 0 (fun v1=>ld1 H x1 1 (fun v2=>A 75 [(agg ⟨[(I v1),v2]⟩),(int .u64 0)] H (fun v3 H4=>asI .i64 v3 (fun v5=>P (tuple ⟨[(I v5),(I 0)]⟩) H4))))
abbrev k1:Sk:=[(4,J)]
def B2 (P:PT):Y k1:=fun x4 H=>
  P (tuple ⟨[(I 0),(I x4)]⟩) H
abbrev k2:Sk:=[(1,.x),(4,J)]
def B3 (P:PT):Y k2:=fun x1 x4 H=>
  pif ((x4:Int) != 0) (B2 P x4 H) (B1 P x1 H)
def B4 (P:PT):Y k0:=fun x1 H=>
  li H x1 0 (fun v1=>ld1 H x1 1 (fun v2=>A 55 [(agg ⟨[(I v1),v2]⟩),(bool true)] H (fun v3 H4=>asI .i64 v3 (fun v5=>B3 P x1 v5 H4))))
abbrev k3:Sk:=[(0,.g [.i,.v])]
def B5 (P:PT):Y k3:=fun x0a x0b H=>
  newK H [(I x0a),x0b] 31 (fun b1 H2=>B4 P b1 H2)
def code:Code:=(.seq (R 0 2) (.seq (.seq (R 1 12) (.seq (R 2 26) (.cond (.tmp 8) (.seq (R 3 108) .ret) .skip))) (.seq (R 4 14) .ret)))
theorem body:Tryz.f18.body=some code:=by kernel_rfl
theorem main P:Z 12 k3 (B5 P) code (ret P):=
  (r_seq (b (E k0 (B4 P))) (r_seq (r_seq (b (E k2 (B3 P))) (r_seq (b (cnd 8 (E k1 (B2 P)) (E k0 (B1 P)))) (r_cond rfl (r_seq (b (ret P)) r_ret) r_skip))) (r_seq (b (ret P)) r_ret)))
theorem ac (P:PT) (x0a:Int) (x0b:Value) (H:AHeap) (h:B5 P x0a x0b H):A 18 [(agg ⟨[(I x0a),x0b]⟩)] H P:=
  r_fn T0_ok (c:=code) (n:=12) Tryz.func18 body (by kernel_rfl) (main P) (En_mk (x0a,x0b,()) (by kernel_rfl) ⟨by kernel_rfl,trivial⟩ h)

end F18
namespace F19
abbrev E:=En 13
def O (k:Nat):=ob Tryz.f19 (pth k)
abbrev R (i k:Nat):Code:=.region i ⟨O k⟩ false
def ret (P:PT):EP:=retE T0 13 Tryz.f19 P
abbrev k0:Sk:=[(1,.x)]
def B1 (P:PT):Y k0:=fun x1 H=>
  li H x1 0 (fun v1=>ld1 H x1 1 (fun v2=>A 76 [(agg ⟨[(I v1),v2]⟩)] H (fun v3 H4=>isNilK v3 (fun v6=>P (tuple ⟨[(bool (!v6)),(I 0)]⟩) H4))))
abbrev k1:Sk:=[(4,J)]
def B2 (P:PT):Y k1:=fun x4 H=>
  P (tuple ⟨[(bool false),(I x4)]⟩) H
abbrev k2:Sk:=[(1,.x),(4,J)]
def B3 (P:PT):Y k2:=fun x1 x4 H=>
  pif ((x4:Int) != 0) (B2 P x4 H) (B1 P x1 H)
def B4 (P:PT):Y k0:=fun x1 H=>
  li H x1 0 (fun v1=>ld1 H x1 1 (fun v2=>A 55 [(agg ⟨[(I v1),v2]⟩),(bool true)] H (fun v3 H4=>asI .i64 v3 (fun v5=>B3 P x1 v5 H4))))
abbrev k3:Sk:=[(0,.g [.i,.v])]
def B5 (P:PT):Y k3:=fun x0a x0b H=>
  newK H [(I x0a),x0b] 31 (fun b1 H2=>B4 P b1 H2)
def code:Code:=(.seq (R 0 2) (.seq (.seq (R 1 12) (.seq (R 2 26) (.cond (.tmp 8) (.seq (R 3 108) .ret) .skip))) (.seq (R 4 14) .ret)))
theorem body:Tryz.f19.body=some code:=by kernel_rfl
theorem main P:Z 13 k3 (B5 P) code (ret P):=
  (r_seq (b (E k0 (B4 P))) (r_seq (r_seq (b (E k2 (B3 P))) (r_seq (b (cnd 8 (E k1 (B2 P)) (E k0 (B1 P)))) (r_cond rfl (r_seq (b (ret P)) r_ret) r_skip))) (r_seq (b (ret P)) r_ret)))
theorem ac (P:PT) (x0a:Int) (x0b:Value) (H:AHeap) (h:B5 P x0a x0b H):A 19 [(agg ⟨[(I x0a),x0b]⟩)] H P:=
  r_fn T0_ok (c:=code) (n:=13) Tryz.func19 body (by kernel_rfl) (main P) (En_mk (x0a,x0b,()) (by kernel_rfl) ⟨by kernel_rfl,trivial⟩ h)

end F19
namespace F55
abbrev E:=En 12
def O (k:Nat):=ob Tryz.f55 (pth k)
abbrev R (i k:Nat):Code:=.region i ⟨O k⟩ false
def ret (P:PT):EP:=retE T0 12 Tryz.f55 P
abbrev k0:Sk:=[]
def B1 (P:PT):Y k0:=fun H=>
  P (I 0) H
def B2 (P:PT):Y k0:=fun H=>
  P (I 1) H
def B3 (P:PT):Y k0:=fun H=>
  P (I 2) H
abbrev k1:Sk:=[(1,.b)]
def B4 (P:PT):Y k1:=fun x1 H=>
  pif (!x1) (B3 P H) (B1 P H)
abbrev k2:Sk:=[(1,.b),(2,.x)]
def B5 (P:PT):Y k2:=fun x1 x2 H=>
  li H x2 0 (fun v1=>ld1 H x2 1 (fun v2=>A 13 [(agg ⟨[(I v1),v2]⟩)] H (fun v3 H4=>asB v3 (fun v5=>pif (!v5) (B2 P H4) (B4 P x1 H4)))))
abbrev k3:Sk:=[(0,.g [.i,.v]),(1,.b)]
def B6 (P:PT):Y k3:=fun x0a x0b x1 H=>
  newK H [(I x0a),x0b] 31 (fun b1 H2=>B5 P x1 b1 H2)
def code:Code:=(.seq (R 0 2) (.seq (.block 0 (.seq (R 1 24) (.cond (.tmp 5) (.seq (R 2 100) .ret) (.seq (R 3 102) (.cond (.tmp 9) (.seq (R 4 412) .ret) .skip))))) (.seq (R 5 14) .ret)))
theorem body:Tryz.f55.body=some code:=by kernel_rfl
theorem main P:Z 12 k3 (B6 P) code (ret P):=
  (r_seq (b (E k2 (B5 P))) (r_seq (r_block (r_seq (b (cnd 5 (E k0 (B2 P)) (E k1 (B4 P)))) (r_cond rfl (r_seq (b (ret P)) r_ret) (r_seq (b (cnd 9 (E k0 (B3 P)) (E k0 (B1 P)))) (r_cond rfl (r_seq (b (ret P)) r_ret) r_skip))))) (r_seq (b (ret P)) r_ret)))
theorem ac (P:PT) (x0a:Int) (x0b:Value) (x1:Bool) (H:AHeap) (h:B6 P x0a x0b x1 H):A 55 [(agg ⟨[(I x0a),x0b]⟩),(bool x1)] H P:=
  r_fn T0_ok (c:=code) (n:=12) Tryz.func55 body (by kernel_rfl) (main P) (En_mk (x0a,x0b,x1,()) (by kernel_rfl) ⟨by kernel_rfl,by kernel_rfl,trivial⟩ h)

end F55
namespace F56
abbrev E:=En 11
def O (k:Nat):=ob Tryz.f56 (pth k)
abbrev R (i k:Nat):Code:=.region i ⟨O k⟩ false
def ret (P:PT):EP:=retE T0 11 Tryz.f56 P
abbrev k0:Sk:=[(1,J),(2,.x)]
def B1 (P:PT):Y k0:=fun x1 x2 H=>
  ld1 H x2 1 (fun v1=>A 115 [v1] H (fun v2 H3=>asI .i64 v2 (fun v4=>A 114 [(I x1),(I 0),(I (i64.wrap (v4-1)))] H3 (fun v5 H6=>asB v5 (fun v7=>P (bool v7) H6)))))
abbrev k1:Sk:=[(0,.g [.i,.v]),(1,J)]
def B2 (P:PT):Y k1:=fun x0a x0b x1 H=>
  newK H [(I x0a),x0b] 31 (fun b1 H2=>B1 P x1 b1 H2)
def code:Code:=(.seq (R 0 2) (.seq (R 1 6) .ret))
theorem body:Tryz.f56.body=some code:=by kernel_rfl
theorem main P:Z 11 k1 (B2 P) code (ret P):=
  (r_seq (b (E k0 (B1 P))) (r_seq (b (ret P)) r_ret))
theorem ac (P:PT) (x0a:Int) (x0b:Value) (x1:Int) (H:AHeap) (h:B2 P x0a x0b x1 H):A 56 [(agg ⟨[(I x0a),x0b]⟩),(I x1)] H P:=
  r_fn T0_ok (c:=code) (n:=11) Tryz.func56 body (by kernel_rfl) (main P) (En_mk (x0a,x0b,x1,()) (by kernel_rfl) ⟨by kernel_rfl,by kernel_rfl,trivial⟩ h)

end F56
namespace F57
abbrev E:=En 13
def O (k:Nat):=ob Tryz.f57 (pth k)
abbrev R (i k:Nat):Code:=.region i ⟨O k⟩ false
def ret (P:PT):EP:=retE T0 13 Tryz.f57 P
abbrev k0:Sk:=[(0,J),(1,.v),(4,.x)]
def B1 (P:PT):Y k0:=fun x0 x1 x4 H=>
  callV Tryz.prog T0 x1 [] H (fun v1 H2=>A 116 [(I x0),v1] H2 (fun v4 H5=>agg2 v4 (fun v6 v7=>asI .i64 v6 (fun v8=>stK H5 x4 0 [(I v8),v7] (fun H10=>li H10 x4 0 (fun v11=>ld1 H10 x4 1 (fun v12=>P (tuple ⟨[(agg ⟨[(I v11),v12]⟩),(I 0)]⟩) H10)))))))
abbrev k1:Sk:=[(4,.x)]
def B2 (P:PT):Y k1:=fun x4 H=>
  stK H x4 0 [(I 0),(slice none 0 0)] (fun H1=>li H1 x4 0 (fun v2=>ld1 H1 x4 1 (fun v3=>P (tuple ⟨[(agg ⟨[(I v2),v3]⟩),(I 3)]⟩) H1)))
def B3 (P:PT):Y k0:=fun x0 x1 x4 H=>
  pif (decide ((x0:Int)>20)) (B2 P x4 H) (B1 P x0 x1 x4 H)
abbrev k2:Sk:=[(0,J),(1,.v)]
def B4 (P:PT):Y k2:=fun x0 x1 H=>
  newK H [(I 0),(slice none 0 0)] 31 (fun b1 H2=>B3 P x0 x1 b1 H2)
def code:Code:=(.seq (R 0 2) (.seq (.seq (R 1 12) (.cond (.tmp 7) (.seq (R 2 52) .ret) .skip)) (.seq (R 3 14) .ret)))
theorem body:Tryz.f57.body=some code:=by kernel_rfl
theorem main P:Z 13 k2 (B4 P) code (ret P):=
  (r_seq (b (E k0 (B3 P))) (r_seq (r_seq (b (cnd 7 (E k1 (B2 P)) (E k0 (B1 P)))) (r_cond rfl (r_seq (b (ret P)) r_ret) r_skip)) (r_seq (b (ret P)) r_ret)))
theorem ac (P:PT) (x0:Int) (x1:Value) (H:AHeap) (h:B4 P x0 x1 H):A 57 [(I x0),x1] H P:=
  r_fn T0_ok (c:=code) (n:=13) Tryz.func57 body (by kernel_rfl) (main P) (En_mk (x0,x1,()) (by kernel_rfl) ⟨by kernel_rfl,by kernel_rfl,trivial⟩ h)

end F57
namespace F58
abbrev E:=En 60
def O (k:Nat):=ob Tryz.f58 (pth k)
abbrev R (i k:Nat):Code:=.region i ⟨O k⟩ false
def ret (P:PT):EP:=retE T0 60 Tryz.f58 P
abbrev k0:Sk:=[(5,.v)]
def B1 (P:PT):Y k0:=fun x5 H=>
  P x5 H
abbrev k1:Sk:=[(1,.v),(2,.v),(4,J),(5,.v),(16,.v),(17,J),(18,J)]
def B3 (P:PT) (N2:Y k1):Y k1:=fun x1 x2 x4 x5 x16 x17 x18 H=>
  N2 x1 x2 x4 x5 x16 x17 (i64.wrap (x18+1)) H
abbrev k2:Sk:=[(1,.v),(2,.v),(4,J),(5,.v),(7,.x),(16,.v),(17,J),(18,J)]
def B4 (P:PT) (N2:Y k1):Y k2:=fun x1 x2 x4 x5 x7 x16 x17 x18 H=>
  li H x7 0 (fun v1=>li H x7 1 (fun v2=>newK H [(I v1),(I x4),(I x4),(I v2)] 28 (fun b3 H4=>apK T0 28 H4 x5 (slice (some ⟨b3,0,none⟩) 2 (2+1)) (fun v5 H6=>B3 P N2 x1 x2 x4 v5 x16 x17 x18 H6))))
def B5 (P:PT) (N2:Y k1):Y k2:=fun x1 x2 x4 x5 x7 x16 x17 x18 H=>
  li H x7 0 (fun v1=>li H x7 1 (fun v2=>newK H [(I v1),(I (i64.wrap (x4+1))),(I (i64.wrap (x4+1))),(I v2)] 28 (fun b3 H4=>apK T0 28 H4 x5 (slice (some ⟨b3,0,none⟩) 2 (2+1)) (fun v5 H6=>B3 P N2 x1 x2 x4 v5 x16 x17 x18 H6))))
def B6 (P:PT) (N2:Y k1):Y k2:=fun x1 x2 x4 x5 x7 x16 x17 x18 H=>
  li H x7 0 (fun v1=>li H x7 1 (fun v2=>newK H [(I v1),(I v2)] 28 (fun b3 H4=>apK T0 28 H4 x5 (slice (some ⟨b3,0,none⟩) 1 (1+1)) (fun v5 H6=>B3 P N2 x1 x2 x4 v5 x16 x17 x18 H6))))
abbrev k3:Sk:=[(1,.v),(2,.v),(4,J),(5,.v),(7,.x),(16,.v),(17,J),(18,J),(23,J)]
def B7 (P:PT) (N2:Y k1):Y k3:=fun x1 x2 x4 x5 x7 x16 x17 x18 x23 H=>
  asP x2 (fun b1 o2=>li H b1 o2 (fun v3=>pif ((x23:Int)==v3) (B5 P N2 x1 x2 x4 x5 x7 x16 x17 x18 H) (B6 P N2 x1 x2 x4 x5 x7 x16 x17 x18 H)))
def B8 (P:PT) (N2:Y k1):Y k3:=fun x1 x2 x4 x5 x7 x16 x17 x18 x23 H=>
  asP x1 (fun b1 o2=>li H b1 o2 (fun v3=>pif ((x23:Int)==v3) (B4 P N2 x1 x2 x4 x5 x7 x16 x17 x18 H) (B7 P N2 x1 x2 x4 x5 x7 x16 x17 x18 x23 H)))
abbrev k4:Sk:=[(1,.v),(2,.v),(4,J),(5,.v),(6,J),(7,.x),(16,.v),(17,J),(18,J)]
def B9 (P:PT) (N2:Y k1):Y k4:=fun x1 x2 x4 x5 x6 x7 x16 x17 x18 H=>
  B8 P N2 x1 x2 x4 x5 x7 x16 x17 x18 x6 H
def B10 (P:PT) (N2:Y k1):Y k1:=fun x1 x2 x4 x5 x16 x17 x18 H=>
  idxK x16 x18 2 (fun b1 o2=>li H b1 o2 (fun v3=>li H b1 (o2+1) (fun v4=>newK H [(I 0),(I 0)] 28 (fun b5 H6=>stK H6 b5 0 [(I v3),(I v4)] (fun H7=>B9 P N2 x1 x2 x4 x5 x18 b5 x16 x17 x18 H7)))))
def B11 (P:PT) (N2:Y k1):Y k1:=fun x1 x2 x4 x5 x16 x17 x18 H=>
  pif (decide ((x18:Int)<x17)) (B10 P N2 x1 x2 x4 x5 x16 x17 x18 H) (B1 P x5 H)
def L2 (P:PT):Y k1:=fun x1 x2 x4 x5 x16 x17 x18 H=>
  ∃ (I:Y k1) (μ:NTy k1 (AHeap→Nat)),I x1 x2 x4 x5 x16 x17 x18 H∧∀ y1 y2 y4 y5 y16 y17 y18 G,I y1 y2 y4 y5 y16 y17 y18 G→B11 P (fun z1 z2 z4 z5 z16 z17 z18 G'=>I z1 z2 z4 z5 z16 z17 z18 G'∧μ z1 z2 z4 z5 z16 z17 z18 G'<μ y1 y2 y4 y5 y16 y17 y18 G) y1 y2 y4 y5 y16 y17 y18 G
theorem l2 P:LQ k1 (L2 P) (B11 P):=fun ⟨_,_,_,_,_,_,_,_⟩ _ ⟨I,μ,h0,hI⟩=>⟨apT _ I,apT _ μ,h0,fun ⟨_,_,_,_,_,_,_,_⟩ _ h=>hI _ _ _ _ _ _ _ _  h⟩
abbrev k5:Sk:=[(0,.v),(1,.v),(2,.v),(4,J),(5,.v)]
def B12 (P:PT):Y k5:=fun x0 x1 x2 x4 x5 H=>
  asP x0 (fun b1 o2=>ld1 H b1 (o2+1) (fun v3=>lenK v3 (fun n4=>L2 P x1 x2 x4 x5 v3 (n4:Int) 0 H)))
abbrev k6:Sk:=[(0,.v),(1,.v),(2,.v),(4,J)]
def B13 (P:PT):Y k6:=fun x0 x1 x2 x4 H=>
  newK H [(I x4),(I (i64.wrap (x4+1)))] 28 (fun b1 H2=>B12 P x0 x1 x2 x4 (slice (some ⟨b1,0,none⟩) 1 (1+1)) H2)
abbrev k7:Sk:=[(0,.v),(1,.v),(2,.v)]
def B14 (P:PT):Y k7:=fun x0 x1 x2 H=>
  asP x0 (fun b1 o2=>li H b1 o2 (fun v3=>B13 P x0 x1 x2 v3 H))
def B15 (P:PT):Y k7:=fun x0 x1 x2 H=>
  B14 P x0 x1 x2 H
def code:Code:=(.seq (R 0 2) (.seq (R 1 6) (.seq (R 2 14) (.seq (.seq (R 3 60) (.block 0 (.loop (.seq (R 4 488) (.seq (.cond (.tmp 19) .skip (.exit 0)) (.seq (.block 1 (.seq (R 5 7832) (.seq (R 6 15666) (.block 2 (.seq (R 8 62668) (.cond (.tmp 28) (R 9 125338) (.seq (R 10 250678) (.cond (.tmp 42) (R 11 501358) (R 7 501359))))))))) (R 12 1959))))))) (.seq (R 13 62) .ret)))))
theorem body:Tryz.f58.body=some code:=by kernel_rfl
theorem main P:Z 60 k7 (B15 P) code (ret P):=
  (r_seq (b (E k7 (B14 P))) (r_seq (b (E k6 (B13 P))) (r_seq (b (E k5 (B12 P))) (r_seq (r_seq (b (E k1 (L2 P))) (r_block (rL (l2 P) (fun N2=>(r_seq (b (cnd 19 (E k1 (B10 P N2)) (E k0 (B1 P)))) (r_seq (r_cond rfl r_skip (r_exit (fun _ _ h=>h))) (r_seq (r_block (r_seq (b (E k4 (B9 P N2))) (r_seq (b (E k3 (B8 P N2))) (r_block (r_seq (b (cnd 28 (E k2 (B4 P N2)) (E k3 (B7 P N2)))) (r_cond rfl (b (E k1 (B3 P N2))) (r_seq (b (cnd 42 (E k2 (B5 P N2)) (E k2 (B6 P N2)))) (r_cond rfl (b (E k1 (B3 P N2))) (b (E k1 (B3 P N2))))))))))) (b (E k1 N2))))))))) (r_seq (b (ret P)) r_ret)))))
theorem ac (P:PT) (x0 x1 x2:Value) (H:AHeap) (h:B15 P x0 x1 x2 H):A 58 [x0,x1,x2] H P:=
  r_fn T0_ok (c:=code) (n:=60) Tryz.func58 body (by kernel_rfl) (main P) (En_mk (x0,x1,x2,()) (by kernel_rfl) ⟨by kernel_rfl,by kernel_rfl,by kernel_rfl,trivial⟩ h)

end F58
namespace F59
abbrev E:=En 25
def O (k:Nat):=ob Tryz.f59 (pth k)
abbrev R (i k:Nat):Code:=.region i ⟨O k⟩ false
def ret (P:PT):EP:=retE T0 25 Tryz.f59 P
abbrev k0:Sk:=[]
def B1 (P:PT):Y k0:=fun H=>
  P (I 0) H
abbrev k1:Sk:=[(1,.v),(2,.x),(5,J)]
def B3 (P:PT) (N2:Y k1):Y k1:=fun x1 x2 x5 H=>
  N2 x1 x2 (i64.wrap (x5+1)) H
def B4 (P:PT) (N2:Y k1):Y k0:=fun H=>
  P (I 2) H
def o5:=O 1864
def B5 (P:PT) (N2:Y k1):Y k1:=fun x1 x2 x5 H=>
  idxK x1 x5 1 (fun b1 o2=>li H b1 o2 (fun v3=>ld1 H x2 1 (fun v4=>lenK v4 (fun n5=>A 91 [(I v3),(I 0),(I (i64.wrap ((n5:Int)-1)))] H (fun v6 H7=>asB v6 (fun v8=>pif (!v8) (B4 P N2 H7) (B3 P N2 x1 x2 x5 H7)))))))
theorem q5 (P:PT) (N2:Y k1):QD Tryz.prog T0 25 o5 [(0,false),(1,false),(2,false),(3,false),(4,false),(5,false),(6,false),(7,false),(8,false),(9,false)] (cnd 24 (En 25 k0 (B4 P N2)) (En 25 k1 (B3 P N2))) k1 (B5 P N2):=fun _ _ _ _ _  => by kernel_rfl
def B6 (P:PT) (N2:Y k1):Y k1:=fun x1 x2 x5 H=>
  lenK x1 (fun n1=>pif (decide ((x5:Int)<(n1:Int))) (B5 P N2 x1 x2 x5 H) (B1 P H))
def L2 (P:PT):Y k1:=fun x1 x2 x5 H=>
  ∃ (I:Y k1) (μ:NTy k1 (AHeap→Nat)),I x1 x2 x5 H∧∀ y1 y2 y5 G,I y1 y2 y5 G→B6 P (fun z1 z2 z5 G'=>I z1 z2 z5 G'∧μ z1 z2 z5 G'<μ y1 y2 y5 G) y1 y2 y5 G
theorem l2 P:LQ k1 (L2 P) (B6 P):=fun ⟨_,_,_,_⟩ _ ⟨I,μ,h0,hI⟩=>⟨apT _ I,apT _ μ,h0,fun ⟨_,_,_,_⟩ _ h=>hI _ _ _ _  h⟩
abbrev k2:Sk:=[(1,.v),(2,.x)]
def B7 (P:PT):Y k2:=fun x1 x2 H=>
  L2 P x1 x2 0 H
def B8 (P:PT):Y k0:=fun H=>
  P (I 1) H
def B9 (P:PT):Y k2:=fun x1 x2 H=>
  li H x2 0 (fun v1=>ld1 H x2 1 (fun v2=>A 68 [(agg ⟨[(I v1),v2]⟩)] H (fun v3 H4=>asB v3 (fun v5=>pif (!v5) (B8 P H4) (B7 P x1 x2 H4)))))
abbrev k3:Sk:=[(0,.g [.i,.v]),(1,.v)]
def B10 (P:PT):Y k3:=fun x0a x0b x1 H=>
  newK H [(I x0a),x0b] 31 (fun b1 H2=>B9 P x1 b1 H2)
def code:Code:=(.seq (R 0 2) (.seq (.seq (R 1 12) (.cond (.tmp 8) (.seq (R 2 52) .ret) .skip)) (.seq (.seq (R 3 28) (.block 0 (.loop (.seq (.seq (R 4 464) (.cond (.tmp 12) .skip (.exit 0))) (.seq (.block 1 (.seq (.region 6 ⟨o5⟩ true) (.cond (.tmp 24) (.seq (R 7 7460) .ret) .skip))) (R 5 467)))))) (.seq (R 8 30) .ret))))
theorem body:Tryz.f59.body=some code:=by kernel_rfl
theorem main P:Z 25 k3 (B10 P) code (ret P):=
  (r_seq (b (E k2 (B9 P))) (r_seq (r_seq (b (cnd 8 (E k0 (B8 P)) (E k2 (B7 P)))) (r_cond rfl (r_seq (b (ret P)) r_ret) r_skip)) (r_seq (r_seq (b (E k1 (L2 P))) (r_block (rL (l2 P) (fun N2=>(r_seq (r_seq (b (cnd 12 (E k1 (B5 P N2)) (E k0 (B1 P)))) (r_cond rfl r_skip (r_exit (fun _ _ h=>h)))) (r_seq (r_block (r_seq (rD T0_ok mixed [(0,false),(1,false),(2,false),(3,false),(4,false),(5,false),(6,false),(7,false),(8,false),(9,false)] (by kernel_rfl) (q5 P N2)) (r_cond rfl (r_seq (b (ret P)) r_ret) r_skip))) (b (E k1 N2)))))))) (r_seq (b (ret P)) r_ret))))
theorem ac (P:PT) (x0a:Int) (x0b x1:Value) (H:AHeap) (h:B10 P x0a x0b x1 H):A 59 [(agg ⟨[(I x0a),x0b]⟩),x1] H P:=
  r_fn T0_ok (c:=code) (n:=25) Tryz.func59 body (by kernel_rfl) (main P) (En_mk (x0a,x0b,x1,()) (by kernel_rfl) ⟨by kernel_rfl,by kernel_rfl,trivial⟩ h)

end F59
namespace F60
abbrev E:=En 9
def O (k:Nat):=ob Tryz.f60 (pth k)
abbrev R (i k:Nat):Code:=.region i ⟨O k⟩ false
def ret (P:PT):EP:=retE T0 9 Tryz.f60 P
abbrev k0:Sk:=[(0,J),(1,.v),(4,.x)]
def B1 (P:PT):Y k0:=fun x0 x1 x4 H=>
  A 117 [x1] H (fun v1 H2=>pif (Value.oneCell' v1) (stK H2 x4 0 [(I x0),v1] (fun H4=>li H4 x4 0 (fun v5=>ld1 H4 x4 1 (fun v6=>P (agg ⟨[(I v5),v6]⟩) H4)))) False)
abbrev k1:Sk:=[(0,J),(1,.v)]
def B2 (P:PT):Y k1:=fun x0 x1 H=>
  newK H [(I 0),(slice none 0 0)] 31 (fun b1 H2=>B1 P x0 x1 b1 H2)
def code:Code:=(.seq (R 0 2) (.seq (R 1 6) .ret))
theorem body:Tryz.f60.body=some code:=by kernel_rfl
theorem main P:Z 9 k1 (B2 P) code (ret P):=
  (r_seq (b (E k0 (B1 P))) (r_seq (b (ret P)) r_ret))
theorem ac (P:PT) (x0:Int) (x1:Value) (H:AHeap) (h:B2 P x0 x1 H):A 60 [(I x0),x1] H P:=
  r_fn T0_ok (c:=code) (n:=9) Tryz.func60 body (by kernel_rfl) (main P) (En_mk (x0,x1,()) (by kernel_rfl) ⟨by kernel_rfl,by kernel_rfl,trivial⟩ h)

end F60
namespace F61
abbrev E:=En 20
def O (k:Nat):=ob Tryz.f61 (pth k)
abbrev R (i k:Nat):Code:=.region i ⟨O k⟩ false
def ret (P:PT):EP:=retE T0 20 Tryz.f61 P
abbrev k0:Sk:=[(1,.v),(2,.x)]
def o1:=O 6
def B1 (P:PT):Y k0:=fun x1 x2 H=>
  li H x2 0 (fun v1=>A 118 [(I v1)] H (fun v2 H3=>asB v2 (fun v4=>pif v4 (li H3 x2 0 (fun v5=>A 115 [x1] H3 (fun v6 H7=>asI .i64 v6 (fun v8=>(AHeap.le H3 H7)∧(pif ((v8:Int)==(i64.wrap (Int.tdiv (i64.wrap (3*v5)) 2))) (A 62 [x1,(func (.func 119) ⟨[]⟩ ⟨[(pointer (some ⟨x2,0,none⟩))]⟩)] H7 (fun v9 H10=>asB v9 (fun v11=>P (bool v11) H10))) (P (bool false) H7)))))) (P (bool false) H3))))
theorem q1 (P:PT):QD Tryz.prog T0 20 o1 [(0,false),(1,false),(2,false),(3,false),(5,false),(6,false),(7,false),(4,true),(8,false),(9,false),(10,false),(11,false),(12,false),(13,false),(14,false),(15,false)] (ret P) k0 (B1 P):=fun _ _ _ _  => by kernel_rfl
abbrev k1:Sk:=[(0,J),(1,.v)]
def B2 (P:PT):Y k1:=fun x0 x1 H=>
  newK H [(I x0)] 2 (fun b1 H2=>B1 P x1 b1 H2)
def code:Code:=(.seq (R 0 2) (.seq (.region 1 ⟨o1⟩ true) .ret))
theorem body:Tryz.f61.body=some code:=by kernel_rfl
theorem main P:Z 20 k1 (B2 P) code (ret P):=
  (r_seq (b (E k0 (B1 P))) (r_seq (rD T0_ok mixed [(0,false),(1,false),(2,false),(3,false),(5,false),(6,false),(7,false),(4,true),(8,false),(9,false),(10,false),(11,false),(12,false),(13,false),(14,false),(15,false)] (by kernel_rfl) (q1 P)) r_ret))
theorem ac (P:PT) (x0:Int) (x1:Value) (H:AHeap) (h:B2 P x0 x1 H):A 61 [(I x0),x1] H P:=
  r_fn T0_ok (c:=code) (n:=20) Tryz.func61 body (by kernel_rfl) (main P) (En_mk (x0,x1,()) (by kernel_rfl) ⟨by kernel_rfl,by kernel_rfl,trivial⟩ h)

end F61
namespace F62
abbrev E:=En 9
def O (k:Nat):=ob Tryz.f62 (pth k)
abbrev R (i k:Nat):Code:=.region i ⟨O k⟩ false
def ret (P:PT):EP:=retE T0 9 Tryz.f62 P
abbrev k0:Sk:=[(0,.v),(3,.x)]
def B1 (P:PT):Y k0:=fun x0 x3 H=>
  A 120 [x0,(func (.func 121) ⟨[]⟩ ⟨[(pointer (some ⟨x3,0,none⟩))]⟩)] H (fun v1 H2=>asB v1 (fun v3=>P (bool (!v3)) H2))
abbrev k1:Sk:=[(0,.v),(1,.v)]
def B2 (P:PT):Y k1:=fun x0 x1 H=>
  pif (Value.oneCell' x1) (newK H [x1] 77 (fun b1 H2=>B1 P x0 b1 H2)) False
def code:Code:=(.seq (R 0 2) (.seq (R 1 6) .ret))
theorem body:Tryz.f62.body=some code:=by kernel_rfl
theorem main P:Z 9 k1 (B2 P) code (ret P):=
  (r_seq (b (E k0 (B1 P))) (r_seq (b (ret P)) r_ret))
theorem ac (P:PT) (x0 x1:Value) (H:AHeap) (h:B2 P x0 x1 H):A 62 [x0,x1] H P:=
  r_fn T0_ok (c:=code) (n:=9) Tryz.func62 body (by kernel_rfl) (main P) (En_mk (x0,x1,()) (by kernel_rfl) ⟨by kernel_rfl,by kernel_rfl,trivial⟩ h)

end F62
namespace F63
abbrev E:=En 8
def O (k:Nat):=ob Tryz.f63 (pth k)
abbrev R (i k:Nat):Code:=.region i ⟨O k⟩ false
def ret (P:PT):EP:=retE T0 8 Tryz.f63 P
abbrev k0:Sk:=[(1,.x)]
def B1 (P:PT):Y k0:=fun x1 H=>
  li H x1 0 (fun v1=>li H x1 1 (fun v2=>P (bool (decide ((v1:Int)<v2))) H))
abbrev k1:Sk:=[(0,.g [.i,.i])]
def B2 (P:PT):Y k1:=fun x0a x0b H=>
  newK H [(I x0a),(I x0b)] 28 (fun b1 H2=>B1 P b1 H2)
def code:Code:=(.seq (R 0 2) (.seq (R 1 6) .ret))
theorem body:Tryz.f63.body=some code:=by kernel_rfl
theorem main P:Z 8 k1 (B2 P) code (ret P):=
  (r_seq (b (E k0 (B1 P))) (r_seq (b (ret P)) r_ret))
theorem ac (P:PT) (x0a x0b:Int) (H:AHeap) (h:B2 P x0a x0b H):A 63 [(agg ⟨[(I x0a),(I x0b)]⟩)] H P:=
  r_fn T0_ok (c:=code) (n:=8) Tryz.func63 body (by kernel_rfl) (main P) (En_mk (x0a,x0b,()) (by kernel_rfl) ⟨by kernel_rfl,trivial⟩ h)

end F63
namespace F64
abbrev E:=En 25
def O (k:Nat):=ob Tryz.f64 (pth k)
abbrev R (i k:Nat):Code:=.region i ⟨O k⟩ false
def ret (P:PT):EP:=retE T0 25 Tryz.f64 P
abbrev k0:Sk:=[]
def B1 (P:PT):Y k0:=fun H=>
  P (bool true) H
abbrev k1:Sk:=[(0,.v),(1,.v),(5,J)]
def B3 (P:PT) (N2:Y k1):Y k1:=fun x0 x1 x5 H=>
  N2 x0 x1 (i64.wrap (x5-1)) H
def B4 (P:PT) (N2:Y k1):Y k0:=fun H=>
  P (bool false) H
def o5:=O 840
def B5 (P:PT) (N2:Y k1):Y k1:=fun x0 x1 x5 H=>
  idxK x0 x5 2 (fun b1 o2=>li H b1 o2 (fun v3=>li H b1 (o2+1) (fun v4=>idxK x0 (i64.wrap (x5-1)) 2 (fun b5 o6=>li H b5 o6 (fun v7=>li H b5 (o6+1) (fun v8=>callV Tryz.prog T0 x1 [(agg ⟨[(I v3),(I v4)]⟩),(agg ⟨[(I v7),(I v8)]⟩)] H (fun v9 H10=>asI .i64 v9 (fun v11=>pif (decide ((v11:Int)<0)) (B4 P N2 H10) (B3 P N2 x0 x1 x5 H10)))))))))
theorem q5 (P:PT) (N2:Y k1):QD Tryz.prog T0 25 o5 [(0,false),(1,false),(2,false),(3,false),(4,false),(5,false),(6,false),(7,false),(8,false),(9,false),(10,false),(11,false)] (cnd 24 (En 25 k0 (B4 P N2)) (En 25 k1 (B3 P N2))) k1 (B5 P N2):=fun _ _ _ _ _  => by kernel_rfl
def o6:=O 208
def B6 (P:PT) (N2:Y k1):Y k1:=fun x0 x1 x5 H=>
  pif (decide ((x5:Int)>0)) (B5 P N2 x0 x1 x5 H) (B1 P H)
def L2 (P:PT):Y k1:=fun x0 x1 x5 H=>
  ∃ (I:Y k1) (μ:NTy k1 (AHeap→Nat)),I x0 x1 x5 H∧∀ y0 y1 y5 G,I y0 y1 y5 G→B6 P (fun z0 z1 z5 G'=>I z0 z1 z5 G'∧μ z0 z1 z5 G'<μ y0 y1 y5 G) y0 y1 y5 G
theorem l2 P:LQ k1 (L2 P) (B6 P):=fun ⟨_,_,_,_⟩ _ ⟨I,μ,h0,hI⟩=>⟨apT _ I,apT _ μ,h0,fun ⟨_,_,_,_⟩ _ h=>hI _ _ _ _  h⟩
abbrev k2:Sk:=[(0,.v),(1,.v)]
def B7 (P:PT):Y k2:=fun x0 x1 H=>
  lenK x0 (fun n1=>L2 P x0 x1 (i64.wrap ((n1:Int)-1)) H)
def B8 (P:PT):Y k2:=fun x0 x1 H=>
  B7 P x0 x1 H
def code:Code:=(.seq (R 0 2) (.seq (.seq (R 1 12) (.block 0 (.loop (.seq (.seq (R 2 208) (.cond (.tmp 10) .skip (.exit 0))) (.seq (.block 1 (.seq (.region 4 ⟨o5⟩ true) (.cond (.tmp 24) (.seq (R 5 3364) .ret) .skip))) (R 3 211)))))) (.seq (R 6 14) .ret)))
theorem body:Tryz.f64.body=some code:=by kernel_rfl
theorem main P:Z 25 k2 (B8 P) code (ret P):=
  (r_seq (b (E k2 (B7 P))) (r_seq (r_seq (b (E k1 (L2 P))) (r_block (rL (l2 P) (fun N2=>(r_seq (r_seq (b (cnd 10 (E k1 (B5 P N2)) (E k0 (B1 P)))) (r_cond rfl r_skip (r_exit (fun _ _ h=>h)))) (r_seq (r_block (r_seq (rD T0_ok mixed [(0,false),(1,false),(2,false),(3,false),(4,false),(5,false),(6,false),(7,false),(8,false),(9,false),(10,false),(11,false)] (by kernel_rfl) (q5 P N2)) (r_cond rfl (r_seq (b (ret P)) r_ret) r_skip))) (b (E k1 N2)))))))) (r_seq (b (ret P)) r_ret)))
theorem ac (P:PT) (x0 x1:Value) (H:AHeap) (h:B8 P x0 x1 H):A 64 [x0,x1] H P:=
  r_fn T0_ok (c:=code) (n:=25) Tryz.func64 body (by kernel_rfl) (main P) (En_mk (x0,x1,()) (by kernel_rfl) ⟨by kernel_rfl,by kernel_rfl,trivial⟩ h)

end F64
namespace F65
abbrev E:=En 8
def O (k:Nat):=ob Tryz.f65 (pth k)
abbrev R (i k:Nat):Code:=.region i ⟨O k⟩ false
def ret (P:PT):EP:=retE T0 8 Tryz.f65 P
abbrev k0:Sk:=[(2,.x),(3,.x)]
def o1:=O 6
def B1 (P:PT):Y k0:=fun x2 x3 H=>
  A 122 [(slice (some ⟨x2,0,none⟩) 2 (2+1)),(slice (some ⟨x3,0,none⟩) 2 (2+1))] H (fun v1 H2=>asI .i64 v1 (fun v3=>P (I v3) H2))
theorem q1 (P:PT):QD Tryz.prog T0 8 o1 [(0,false),(1,false),(2,false),(3,false)] (ret P) k0 (B1 P):=fun _ _ _ _  => by kernel_rfl
abbrev k1:Sk:=[(0,.g [.i,.i]),(1,.g [.i,.i])]
def B2 (P:PT):Y k1:=fun x0a x0b x1a x1b H=>
  newK H [(I x0a),(I x0b)] 28 (fun b1 H2=>newK H2 [(I x1a),(I x1b)] 28 (fun b3 H4=>B1 P b1 b3 H4))
def code:Code:=(.seq (R 0 2) (.seq (.region 1 ⟨o1⟩ true) .ret))
theorem body:Tryz.f65.body=some code:=by kernel_rfl
theorem main P:Z 8 k1 (B2 P) code (ret P):=
  (r_seq (b (E k0 (B1 P))) (r_seq (rD T0_ok mixed [(0,false),(1,false),(2,false),(3,false)] (by kernel_rfl) (q1 P)) r_ret))
theorem ac (P:PT) (x0a x0b x1a x1b:Int) (H:AHeap) (h:B2 P x0a x0b x1a x1b H):A 65 [(agg ⟨[(I x0a),(I x0b)]⟩),(agg ⟨[(I x1a),(I x1b)]⟩)] H P:=
  r_fn T0_ok (c:=code) (n:=8) Tryz.func65 body (by kernel_rfl) (main P) (En_mk (x0a,x0b,x1a,x1b,()) (by kernel_rfl) ⟨by kernel_rfl,by kernel_rfl,trivial⟩ h)

end F65
namespace F66
abbrev E:=En 33
def O (k:Nat):=ob Tryz.f66 (pth k)
abbrev R (i k:Nat):Code:=.region i ⟨O k⟩ false
def ret (P:PT):EP:=retE T0 33 Tryz.f66 P
abbrev k0:Sk:=[(5,.v)]
def B1 (P:PT):Y k0:=fun x5 H=>
  A 123 [x5,(func (.func 124) ⟨[]⟩ ⟨[]⟩)] H (fun v1 H2=>asB v1 (fun v3=>P (bool v3) H2))
abbrev k1:Sk:=[(5,.v),(10,.v),(11,J),(12,J)]
def o3:=O 935
def B3 (P:PT) (N2:Y k1):Y k1:=fun x5 x10 x11 x12 H=>
  N2 x5 x10 x11 (i64.wrap (x12+1)) H
abbrev k2:Sk:=[(5,.v),(7,.x),(10,.v),(11,J),(12,J)]
def B4 (P:PT) (N2:Y k1):Y k2:=fun x5 x7 x10 x11 x12 H=>
  li H x7 1 (fun v1=>idxK x5 v1 1 (fun b2 o3=>li H b2 o3 (fun v4=>idxK x5 v1 1 (fun b5 o6=>stK H b5 o6 [(I (i64.wrap (v4+1)))] (fun H7=>B3 P N2 x5 x10 x11 x12 H7)))))
def B5 (P:PT) (N2:Y k1):Y k2:=fun x5 x7 x10 x11 x12 H=>
  li H x7 0 (fun v1=>idxK x5 v1 1 (fun b2 o3=>li H b2 o3 (fun v4=>idxK x5 v1 1 (fun b5 o6=>stK H b5 o6 [(I (i64.wrap (v4+1)))] (fun H7=>B4 P N2 x5 x7 x10 x11 x12 H7)))))
def o6:=O 3736
def B6 (P:PT) (N2:Y k1):Y k1:=fun x5 x10 x11 x12 H=>
  idxK x10 x12 2 (fun b1 o2=>li H b1 o2 (fun v3=>li H b1 (o2+1) (fun v4=>newK H [(I 0),(I 0)] 28 (fun b5 H6=>stK H6 b5 0 [(I v3),(I v4)] (fun H7=>B5 P N2 x5 b5 x10 x11 x12 H7)))))
def B7 (P:PT) (N2:Y k1):Y k1:=fun x5 x10 x11 x12 H=>
  pif (decide ((x12:Int)<x11)) (B6 P N2 x5 x10 x11 x12 H) (B1 P x5 H)
def L2 (P:PT):Y k1:=fun x5 x10 x11 x12 H=>
  ∃ (I:Y k1) (μ:NTy k1 (AHeap→Nat)),I x5 x10 x11 x12 H∧∀ y5 y10 y11 y12 G,I y5 y10 y11 y12 G→B7 P (fun z5 z10 z11 z12 G'=>I z5 z10 z11 z12 G'∧μ z5 z10 z11 z12 G'<μ y5 y10 y11 y12 G) y5 y10 y11 y12 G
theorem l2 P:LQ k1 (L2 P) (B7 P):=fun ⟨_,_,_,_,_⟩ _ ⟨I,μ,h0,hI⟩=>⟨apT _ I,apT _ μ,h0,fun ⟨_,_,_,_,_⟩ _ h=>hI _ _ _ _ _  h⟩
abbrev k3:Sk:=[(1,.v),(5,.v)]
def B8 (P:PT):Y k3:=fun x1 x5 H=>
  lenK x1 (fun n1=>L2 P x5 x1 (n1:Int) 0 H)
abbrev k4:Sk:=[(0,J),(1,.v)]
def B9 (P:PT):Y k4:=fun x0 x1 H=>
  mkR H 8 3 [(I 0)] x0 x0 (fun v2 H1=>B8 P x1 v2 H1)
def B10 (P:PT):Y k4:=fun x0 x1 H=>
  B9 P x0 x1 H
def code:Code:=(.seq (R 0 2) (.seq (R 1 6) (.seq (.seq (R 2 28) (.block 0 (.loop (.seq (R 3 232) (.seq (.cond (.tmp 13) .skip (.exit 0)) (.seq (.block 1 (.seq (R 4 3736) (.seq (R 5 7474) (R 6 7475)))) (R 7 935))))))) (.seq (R 8 30) .ret))))
theorem body:Tryz.f66.body=some code:=by kernel_rfl
theorem main P:Z 33 k4 (B10 P) code (ret P):=
  (r_seq (b (E k4 (B9 P))) (r_seq (b (E k3 (B8 P))) (r_seq (r_seq (b (E k1 (L2 P))) (r_block (rL (l2 P) (fun N2=>(r_seq (b (cnd 13 (E k1 (B6 P N2)) (E k0 (B1 P)))) (r_seq (r_cond rfl r_skip (r_exit (fun _ _ h=>h))) (r_seq (r_block (r_seq (b (E k2 (B5 P N2))) (r_seq (b (E k2 (B4 P N2))) (b (E k1 (B3 P N2)))))) (b (E k1 N2))))))))) (r_seq (b (ret P)) r_ret))))
theorem ac (P:PT) (x0:Int) (x1:Value) (H:AHeap) (h:B10 P x0 x1 H):A 66 [(I x0),x1] H P:=
  r_fn T0_ok (c:=code) (n:=33) Tryz.func66 body (by kernel_rfl) (main P) (En_mk (x0,x1,()) (by kernel_rfl) ⟨by kernel_rfl,by kernel_rfl,trivial⟩ h)

end F66
namespace F67
abbrev E:=En 24
def O (k:Nat):=ob Tryz.f67 (pth k)
abbrev R (i k:Nat):Code:=.region i ⟨O k⟩ false
def ret (P:PT):EP:=retE T0 24 Tryz.f67 P
abbrev k0:Sk:=[(3,J)]
def B1 (P:PT):Y k0:=fun x3 H=>
  P (I x3) H
abbrev k1:Sk:=[(1,.x),(3,J),(8,.v),(9,J),(10,J)]
def B3 (P:PT) (N2:Y k1):Y k1:=fun x1 x3 x8 x9 x10 H=>
  N2 x1 x3 x8 x9 (i64.wrap (x10+1)) H
abbrev k2:Sk:=[(1,.x),(3,J),(6,.x),(8,.v),(9,J),(10,J)]
def B4 (P:PT) (N2:Y k1):Y k2:=fun x1 x3 x6 x8 x9 x10 H=>
  li H x6 0 (fun v1=>B3 P N2 x1 (i64.wrap (x3*v1)) x8 x9 x10 H)
abbrev k3:Sk:=[(1,.x),(3,J),(5,.v),(6,.x),(8,.v),(9,J),(10,J)]
def B5 (P:PT) (N2:Y k1):Y k3:=fun x1 x3 x5 x6 x8 x9 x10 H=>
  li H x1 0 (fun v1=>ld1 H x1 1 (fun v2=>A 126 [(agg ⟨[(I v1),v2]⟩),x5,(bool false),(func (.func 127) ⟨[]⟩ ⟨[(pointer (some ⟨x6,0,none⟩))]⟩)] H (fun v3 H4=>A 128 [v3] H4 (fun v6 H7=>asB v6 (fun v8=>B4 P N2 x1 x3 x6 x8 x9 x10 H7)))))
abbrev k4:Sk:=[(1,.x),(3,J),(5,.v),(8,.v),(9,J),(10,J)]
def B6 (P:PT) (N2:Y k1):Y k4:=fun x1 x3 x5 x8 x9 x10 H=>
  newK H [(I 0)] 2 (fun b1 H2=>B5 P N2 x1 x3 x5 b1 x8 x9 x10 H2)
def B7 (P:PT) (N2:Y k1):Y k1:=fun x1 x3 x8 x9 x10 H=>
  idxK x8 x10 1 (fun b1 o2=>ld1 H b1 o2 (fun v3=>B6 P N2 x1 x3 v3 x8 x9 x10 H))
def B8 (P:PT) (N2:Y k1):Y k1:=fun x1 x3 x8 x9 x10 H=>
  pif (decide ((x10:Int)<x9)) (B7 P N2 x1 x3 x8 x9 x10 H) (B1 P x3 H)
def L2 (P:PT):Y k1:=fun x1 x3 x8 x9 x10 H=>
  ∃ (I:Y k1) (μ:NTy k1 (AHeap→Nat)),I x1 x3 x8 x9 x10 H∧∀ y1 y3 y8 y9 y10 G,I y1 y3 y8 y9 y10 G→B8 P (fun z1 z3 z8 z9 z10 G'=>I z1 z3 z8 z9 z10 G'∧μ z1 z3 z8 z9 z10 G'<μ y1 y3 y8 y9 y10 G) y1 y3 y8 y9 y10 G
theorem l2 P:LQ k1 (L2 P) (B8 P):=fun ⟨_,_,_,_,_,_⟩ _ ⟨I,μ,h0,hI⟩=>⟨apT _ I,apT _ μ,h0,fun ⟨_,_,_,_,_,_⟩ _ h=>hI _ _ _ _ _ _  h⟩
abbrev k5:Sk:=[(1,.x),(3,J)]
def B9 (P:PT):Y k5:=fun x1 x3 H=>
  li H x1 0 (fun v1=>ld1 H x1 1 (fun v2=>A 125 [(agg ⟨[(I v1),v2]⟩)] H (fun v3 H4=>lenK v3 (fun n6=>L2 P x1 x3 v3 (n6:Int) 0 H4))))
abbrev k6:Sk:=[(1,.x)]
def B10 (P:PT):Y k6:=fun x1 H=>
  B9 P x1 1 H
abbrev k7:Sk:=[(0,.g [.i,.v])]
def B11 (P:PT):Y k7:=fun x0a x0b H=>
  newK H [(I x0a),x0b] 31 (fun b1 H2=>B10 P b1 H2)
def code:Code:=(.seq (R 0 2) (.seq (R 1 6) (.seq (.seq (R 2 28) (.block 0 (.loop (.seq (R 3 232) (.seq (.cond (.tmp 11) .skip (.exit 0)) (.seq (.block 1 (.seq (R 4 3736) (.seq (R 5 7474) (.seq (R 6 14950) (R 7 14951))))) (R 8 935))))))) (.seq (R 9 30) .ret))))
theorem body:Tryz.f67.body=some code:=by kernel_rfl
theorem main P:Z 24 k7 (B11 P) code (ret P):=
  (r_seq (b (E k6 (B10 P))) (r_seq (b (E k5 (B9 P))) (r_seq (r_seq (b (E k1 (L2 P))) (r_block (rL (l2 P) (fun N2=>(r_seq (b (cnd 11 (E k1 (B7 P N2)) (E k0 (B1 P)))) (r_seq (r_cond rfl r_skip (r_exit (fun _ _ h=>h))) (r_seq (r_block (r_seq (b (E k4 (B6 P N2))) (r_seq (b (E k3 (B5 P N2))) (r_seq (b (E k2 (B4 P N2))) (b (E k1 (B3 P N2))))))) (b (E k1 N2))))))))) (r_seq (b (ret P)) r_ret))))
theorem ac (P:PT) (x0a:Int) (x0b:Value) (H:AHeap) (h:B11 P x0a x0b H):A 67 [(agg ⟨[(I x0a),x0b]⟩)] H P:=
  r_fn T0_ok (c:=code) (n:=24) Tryz.func67 body (by kernel_rfl) (main P) (En_mk (x0a,x0b,()) (by kernel_rfl) ⟨by kernel_rfl,trivial⟩ h)

end F67
namespace F68
abbrev E:=En 56
def O (k:Nat):=ob Tryz.f68 (pth k)
abbrev R (i k:Nat):Code:=.region i ⟨O k⟩ false
def ret (P:PT):EP:=retE T0 56 Tryz.f68 P
abbrev k0:Sk:=[]
def B1 (P:PT):Y k0:=fun H=>
  P (bool true) H
abbrev k1:Sk:=[(1,.x),(3,J)]
def o3:=O 467
def B3 (P:PT) (N2:Y k1):Y k1:=fun x1 x3 H=>
  N2 x1 (i64.wrap (x3+1)) H
def B4 (P:PT) (N2:Y k1):Y k0:=fun H=>
  P (bool false) H
def o5:=O 1864
def B5 (P:PT) (N2:Y k1):Y k1:=fun x1 x3 H=>
  ld1 H x1 1 (fun v1=>idxK v1 x3 2 (fun b2 o3=>li H b2 o3 (fun v4=>ld1 H x1 1 (fun v5=>idxK v5 x3 2 (fun b6 o7=>li H b6 (o7+1) (fun v8=>pif (decide ((v4:Int)>v8)) (B4 P N2 H) (pif (decide ((x3:Int)>0)) (ld1 H x1 1 (fun v9=>idxK v9 x3 2 (fun b10 o11=>li H b10 o11 (fun v12=>li H b10 (o11+1) (fun v13=>ld1 H x1 1 (fun v14=>idxK v14 (i64.wrap (x3-1)) 2 (fun b15 o16=>li H b15 o16 (fun v17=>li H b15 (o16+1) (fun v18=>A 131 [(agg ⟨[(I v12),(I v13)]⟩),(agg ⟨[(I v17),(I v18)]⟩)] H (fun v19 H20=>asB v19 (fun v21=>pif v21 (B4 P N2 H20) (B3 P N2 x1 x3 H20)))))))))))) (B3 P N2 x1 x3 H))))))))
theorem q5 (P:PT) (N2:Y k1):QD Tryz.prog T0 56 o5 [(0,false),(1,false),(2,false),(3,false),(4,false),(5,false),(6,false),(7,false),(8,false),(9,false),(10,false),(11,false),(12,false),(13,false),(14,false),(15,false),(16,false),(17,false),(18,false),(19,false),(20,false),(21,false),(22,false),(23,false),(24,false),(25,false),(26,false),(27,false),(28,false),(29,false),(30,false)] (cnd 55 (En 56 k0 (B4 P N2)) (En 56 k1 (B3 P N2))) k1 (B5 P N2):=fun _ _ _ _  => by kernel_rfl
def B6 (P:PT) (N2:Y k1):Y k1:=fun x1 x3 H=>
  ld1 H x1 1 (fun v1=>lenK v1 (fun n2=>pif (decide ((x3:Int)<(n2:Int))) (B5 P N2 x1 x3 H) (B1 P H)))
def L2 (P:PT):Y k1:=fun x1 x3 H=>
  ∃ (I:Y k1) (μ:NTy k1 (AHeap→Nat)),I x1 x3 H∧∀ y1 y3 G,I y1 y3 G→B6 P (fun z1 z3 G'=>I z1 z3 G'∧μ z1 z3 G'<μ y1 y3 G) y1 y3 G
theorem l2 P:LQ k1 (L2 P) (B6 P):=fun ⟨_,_,_⟩ _ ⟨I,μ,h0,hI⟩=>⟨apT _ I,apT _ μ,h0,fun ⟨_,_,_⟩ _ h=>hI _ _ _  h⟩
abbrev k2:Sk:=[(1,.x)]
def o7:=O 28
def B7 (P:PT):Y k2:=fun x1 H=>
  L2 P x1 0 H
def B8 (P:PT):Y k0:=fun H=>
  P (bool false) H
def B9 (P:PT):Y k2:=fun x1 H=>
  li H x1 0 (fun v1=>ld1 H x1 1 (fun v2=>A 129 [(I v1),v2] H (fun v3 H4=>asI .i64 v3 (fun v5=>pif ((v5:Int) != 0) (B8 P H4) (li H4 x1 0 (fun v6=>ld1 H4 x1 1 (fun v7=>A 130 [(I v6),v7] H4 (fun v8 H9=>asB v8 (fun v10=>pif (!v10) (B8 P H9) (B7 P x1 H9))))))))))
abbrev k3:Sk:=[(0,.g [.i,.v])]
def B10 (P:PT):Y k3:=fun x0a x0b H=>
  newK H [(I x0a),x0b] 31 (fun b1 H2=>B9 P b1 H2)
def code:Code:=(.seq (R 0 2) (.seq (.seq (R 1 12) (.cond (.tmp 17) (.seq (R 2 52) .ret) .skip)) (.seq (.seq (R 3 28) (.block 0 (.loop (.seq (.seq (R 4 464) (.cond (.tmp 22) .skip (.exit 0))) (.seq (.block 1 (.seq (.region 6 ⟨o5⟩ true) (.cond (.tmp 55) (.seq (R 7 7460) .ret) .skip))) (R 5 467)))))) (.seq (R 8 30) .ret))))
theorem body:Tryz.f68.body=some code:=by kernel_rfl
theorem main P:Z 56 k3 (B10 P) code (ret P):=
  (r_seq (b (E k2 (B9 P))) (r_seq (r_seq (b (cnd 17 (E k0 (B8 P)) (E k2 (B7 P)))) (r_cond rfl (r_seq (b (ret P)) r_ret) r_skip)) (r_seq (r_seq (b (E k1 (L2 P))) (r_block (rL (l2 P) (fun N2=>(r_seq (r_seq (b (cnd 22 (E k1 (B5 P N2)) (E k0 (B1 P)))) (r_cond rfl r_skip (r_exit (fun _ _ h=>h)))) (r_seq (r_block (r_seq (rD T0_ok mixed [(0,false),(1,false),(2,false),(3,false),(4,false),(5,false),(6,false),(7,false),(8,false),(9,false),(10,false),(11,false),(12,false),(13,false),(14,false),(15,false),(16,false),(17,false),(18,false),(19,false),(20,false),(21,false),(22,false),(23,false),(24,false),(25,false),(26,false),(27,false),(28,false),(29,false),(30,false)] (by kernel_rfl) (q5 P N2)) (r_cond rfl (r_seq (b (ret P)) r_ret) r_skip))) (b (E k1 N2)))))))) (r_seq (b (ret P)) r_ret))))
theorem ac (P:PT) (x0a:Int) (x0b:Value) (H:AHeap) (h:B10 P x0a x0b H):A 68 [(agg ⟨[(I x0a),x0b]⟩)] H P:=
  r_fn T0_ok (c:=code) (n:=56) Tryz.func68 body (by kernel_rfl) (main P) (En_mk (x0a,x0b,()) (by kernel_rfl) ⟨by kernel_rfl,trivial⟩ h)

end F68
namespace F69
abbrev E:=En 111
def O (k:Nat):=ob Tryz.f69 (pth k)
abbrev R (i k:Nat):Code:=.region i ⟨O k⟩ false
def ret (P:PT):EP:=retE T0 111 Tryz.f69 P
abbrev k0:Sk:=[(4,.v)]
def B1 (P:PT):Y k0:=fun x4 H=>
  P x4 H
abbrev k1:Sk:=[(1,.x),(3,.v),(4,.v),(5,J)]
def B3 (P:PT) (N2:Y k1):Y k1:=fun x1 x3 x4 x5 H=>
  N2 x1 x3 x4 (i64.wrap (x5+1)) H
abbrev k2:Sk:=[(1,.x),(3,.v),(4,.v),(5,J),(11,.v)]
def B4 (P:PT) (N2:Y k1):Y k2:=fun x1 x3 x4 x5 x11 H=>
  pif (Value.oneCell' x11) (newK H [x11] 42 (fun b1 H2=>apK T0 42 H2 x4 (slice (some ⟨b1,0,none⟩) 1 (1+1)) (fun v3 H4=>B3 P N2 x1 x3 v3 x5 H4))) False
abbrev k3:Sk:=[(1,.x),(3,.v),(4,.v),(5,J),(6,.v),(11,.v),(12,J)]
def B6 (P:PT) (N2:Y k1) (N5:Y k3):Y k3:=fun x1 x3 x4 x5 x6 x11 x12 H=>
  N5 x1 x3 x4 x5 x6 x11 (i64.wrap (x12+1)) H
abbrev k4:Sk:=[(1,.x),(3,.v),(4,.v),(5,J),(6,.v),(11,.v),(12,J),(13,J)]
def o8:=O 122287251
def B8 (P:PT) (N2:Y k1) (N5:Y k3) (N7:Y k4):Y k4:=fun x1 x3 x4 x5 x6 x11 x12 x13 H=>
  N7 x1 x3 x4 x5 x6 x11 x12 (i64.wrap (x13+1)) H
def B9 (P:PT) (N2:Y k1) (N5:Y k3) (N7:Y k4):Y k4:=fun x1 x3 x4 x5 x6 x11 x12 x13 H=>
  newK H [(I x12)] 2 (fun b1 H2=>apK T0 2 H2 x11 (slice (some ⟨b1,0,none⟩) 1 (1+1)) (fun v3 H4=>B8 P N2 N5 N7 x1 x3 x4 x5 x6 v3 x12 x13 H4))
def B10 (P:PT) (N2:Y k1) (N5:Y k3) (N7:Y k4):Y k4:=fun x1 x3 x4 x5 x6 x11 x12 x13 H=>
  idxK x6 x13 1 (fun b1 o2=>li H b1 o2 (fun v3=>pif ((v3:Int)==x12) (B9 P N2 N5 N7 x1 x3 x4 x5 x6 x11 x12 x13 H) (B8 P N2 N5 N7 x1 x3 x4 x5 x6 x11 x12 x13 H)))
def B11 (P:PT) (N2:Y k1) (N5:Y k3) (N7:Y k4):Y k4:=fun x1 x3 x4 x5 x6 x11 x12 x13 H=>
  lenK x6 (fun n1=>pif (decide ((x13:Int)<(n1:Int))) (B10 P N2 N5 N7 x1 x3 x4 x5 x6 x11 x12 x13 H) (B6 P N2 N5 x1 x3 x4 x5 x6 x11 x12 H))
def L7 (P:PT) (N2:Y k1) (N5:Y k3):Y k4:=fun x1 x3 x4 x5 x6 x11 x12 x13 H=>
  ∃ (I:Y k4) (μ:NTy k4 (AHeap→Nat)),I x1 x3 x4 x5 x6 x11 x12 x13 H∧∀ y1 y3 y4 y5 y6 y11 y12 y13 G,I y1 y3 y4 y5 y6 y11 y12 y13 G→B11 P N2 N5 (fun z1 z3 z4 z5 z6 z11 z12 z13 G'=>I z1 z3 z4 z5 z6 z11 z12 z13 G'∧μ z1 z3 z4 z5 z6 z11 z12 z13 G'<μ y1 y3 y4 y5 y6 y11 y12 y13 G) y1 y3 y4 y5 y6 y11 y12 y13 G
theorem l7 P N2 N5:LQ k4 (L7 P N2 N5) (B11 P N2 N5):=fun ⟨_,_,_,_,_,_,_,_,_⟩ _ ⟨I,μ,h0,hI⟩=>⟨apT _ I,apT _ μ,h0,fun ⟨_,_,_,_,_,_,_,_,_⟩ _ h=>hI _ _ _ _ _ _ _ _ _  h⟩
def B12 (P:PT) (N2:Y k1) (N5:Y k3):Y k3:=fun x1 x3 x4 x5 x6 x11 x12 H=>
  L7 P N2 N5 x1 x3 x4 x5 x6 x11 x12 0 H
def B13 (P:PT) (N2:Y k1) (N5:Y k3):Y k3:=fun x1 x3 x4 x5 x6 x11 x12 H=>
  ld1 H x1 1 (fun v1=>lenK v1 (fun n2=>pif (decide ((x12:Int)<(n2:Int))) (B12 P N2 N5 x1 x3 x4 x5 x6 x11 x12 H) (B4 P N2 x1 x3 x4 x5 x11 H)))
def L5 (P:PT) (N2:Y k1):Y k3:=fun x1 x3 x4 x5 x6 x11 x12 H=>
  ∃ (I:Y k3) (μ:NTy k3 (AHeap→Nat)),I x1 x3 x4 x5 x6 x11 x12 H∧∀ y1 y3 y4 y5 y6 y11 y12 G,I y1 y3 y4 y5 y6 y11 y12 G→B13 P N2 (fun z1 z3 z4 z5 z6 z11 z12 G'=>I z1 z3 z4 z5 z6 z11 z12 G'∧μ z1 z3 z4 z5 z6 z11 z12 G'<μ y1 y3 y4 y5 y6 y11 y12 G) y1 y3 y4 y5 y6 y11 y12 G
theorem l5 P N2:LQ k3 (L5 P N2) (B13 P N2):=fun ⟨_,_,_,_,_,_,_,_⟩ _ ⟨I,μ,h0,hI⟩=>⟨apT _ I,apT _ μ,h0,fun ⟨_,_,_,_,_,_,_,_⟩ _ h=>hI _ _ _ _ _ _ _ _  h⟩
abbrev k5:Sk:=[(1,.x),(3,.v),(4,.v),(5,J),(6,.v),(11,.v)]
def B14 (P:PT) (N2:Y k1):Y k5:=fun x1 x3 x4 x5 x6 x11 H=>
  L5 P N2 x1 x3 x4 x5 x6 x11 0 H
abbrev k6:Sk:=[(1,.x),(3,.v),(4,.v),(5,J),(6,.v)]
def B15 (P:PT) (N2:Y k1):Y k6:=fun x1 x3 x4 x5 x6 H=>
  newK H [] 2 (fun b1 H2=>B14 P N2 x1 x3 x4 x5 x6 (slice (some ⟨b1,0,none⟩) 0 (0+1)) H2)
abbrev k7:Sk:=[(1,.x),(3,.v),(4,.v),(5,J),(6,.v),(7,J)]
def B17 (P:PT) (N2:Y k1) (N16:Y k7):Y k7:=fun x1 x3 x4 x5 x6 x7 H=>
  N16 x1 x3 x4 x5 x6 (i64.wrap (x7+1)) H
abbrev k8:Sk:=[(1,.x),(3,.v),(4,.v),(5,J),(6,.v),(7,J),(8,J)]
def B19 (P:PT) (N2:Y k1) (N16:Y k7) (N18:Y k8):Y k8:=fun x1 x3 x4 x5 x6 x7 x8 H=>
  N18 x1 x3 x4 x5 x6 x7 (i64.wrap (x8+1)) H
abbrev k9:Sk:=[(1,.x),(3,.v),(4,.v),(5,J),(6,.v),(7,J),(8,J),(9,.v),(10,J)]
def B21 (P:PT) (N2:Y k1) (N16:Y k7) (N18:Y k8) (N20:Y k9):Y k9:=fun x1 x3 x4 x5 x6 x7 x8 x9 x10 H=>
  N20 x1 x3 x4 x5 x6 x7 x8 x9 (i64.wrap (x10+1)) H
def B22 (P:PT) (N2:Y k1) (N16:Y k7) (N18:Y k8) (N20:Y k9):Y k9:=fun x1 x3 x4 x5 x6 x7 x8 x9 x10 H=>
  idxK x9 x10 1 (fun b1 o2=>li H b1 o2 (fun v3=>newK H [(I v3)] 2 (fun b4 H5=>apK T0 2 H5 x6 (slice (some ⟨b4,0,none⟩) 1 (1+1)) (fun v6 H7=>B21 P N2 N16 N18 N20 x1 x3 x4 x5 v6 x7 x8 x9 x10 H7))))
def B23 (P:PT) (N2:Y k1) (N16:Y k7) (N18:Y k8) (N20:Y k9):Y k9:=fun x1 x3 x4 x5 x6 x7 x8 x9 x10 H=>
  idxK x9 x10 1 (fun b1 o2=>li H b1 o2 (fun v3=>idxK x3 v3 1 (fun b4 o5=>stK H b4 o5 [(bool true)] (fun H6=>B22 P N2 N16 N18 N20 x1 x3 x4 x5 x6 x7 x8 x9 x10 H6))))
def B24 (P:PT) (N2:Y k1) (N16:Y k7) (N18:Y k8) (N20:Y k9):Y k9:=fun x1 x3 x4 x5 x6 x7 x8 x9 x10 H=>
  idxK x9 x10 1 (fun b1 o2=>li H b1 o2 (fun v3=>idxK x3 v3 1 (fun b4 o5=>ld1 H b4 o5 (fun v7=>asB v7 (fun v6=>pif (!v6) (B23 P N2 N16 N18 N20 x1 x3 x4 x5 x6 x7 x8 x9 x10 H) (B21 P N2 N16 N18 N20 x1 x3 x4 x5 x6 x7 x8 x9 x10 H))))))
def B25 (P:PT) (N2:Y k1) (N16:Y k7) (N18:Y k8) (N20:Y k9):Y k9:=fun x1 x3 x4 x5 x6 x7 x8 x9 x10 H=>
  pif (decide ((x10:Int)<3)) (B24 P N2 N16 N18 N20 x1 x3 x4 x5 x6 x7 x8 x9 x10 H) (B19 P N2 N16 N18 x1 x3 x4 x5 x6 x7 x8 H)
def L20 (P:PT) (N2:Y k1) (N16:Y k7) (N18:Y k8):Y k9:=fun x1 x3 x4 x5 x6 x7 x8 x9 x10 H=>
  ∃ (I:Y k9) (μ:NTy k9 (AHeap→Nat)),I x1 x3 x4 x5 x6 x7 x8 x9 x10 H∧∀ y1 y3 y4 y5 y6 y7 y8 y9 y10 G,I y1 y3 y4 y5 y6 y7 y8 y9 y10 G→B25 P N2 N16 N18 (fun z1 z3 z4 z5 z6 z7 z8 z9 z10 G'=>I z1 z3 z4 z5 z6 z7 z8 z9 z10 G'∧μ z1 z3 z4 z5 z6 z7 z8 z9 z10 G'<μ y1 y3 y4 y5 y6 y7 y8 y9 y10 G) y1 y3 y4 y5 y6 y7 y8 y9 y10 G
theorem l20 P N2 N16 N18:LQ k9 (L20 P N2 N16 N18) (B25 P N2 N16 N18):=fun ⟨_,_,_,_,_,_,_,_,_,_⟩ _ ⟨I,μ,h0,hI⟩=>⟨apT _ I,apT _ μ,h0,fun ⟨_,_,_,_,_,_,_,_,_,_⟩ _ h=>hI _ _ _ _ _ _ _ _ _ _  h⟩
abbrev k10:Sk:=[(1,.x),(3,.v),(4,.v),(5,J),(6,.v),(7,J),(8,J),(9,.v)]
def B26 (P:PT) (N2:Y k1) (N16:Y k7) (N18:Y k8):Y k10:=fun x1 x3 x4 x5 x6 x7 x8 x9 H=>
  L20 P N2 N16 N18 x1 x3 x4 x5 x6 x7 x8 x9 0 H
def o27:=O 122278472
def B27 (P:PT) (N2:Y k1) (N16:Y k7) (N18:Y k8):Y k8:=fun x1 x3 x4 x5 x6 x7 x8 H=>
  li H x1 0 (fun v1=>ld1 H x1 1 (fun v2=>ld1 H x1 1 (fun v3=>idxK x6 x7 1 (fun b4 o5=>li H b4 o5 (fun v6=>idxK v3 v6 2 (fun b7 o8=>bndK x8 2 (li H b7 (o8+Int.toNat x8*1) (fun v9=>A 132 [(agg ⟨[(I v1),v2]⟩),(I v9)] H (fun v10 H11=>B26 P N2 N16 N18 x1 x3 x4 x5 x6 x7 x8 v10 H11)))))))))
theorem q27 (P:PT) (N2:Y k1) (N16:Y k7) (N18:Y k8):QD Tryz.prog T0 111 o27 [(0,false),(1,false),(2,false),(3,false),(4,false),(5,false),(6,false),(7,false),(8,false),(9,false),(10,false),(11,false),(12,false)] (En 111 k10 (B26 P N2 N16 N18)) k8 (B27 P N2 N16 N18):=fun _ _ _ _ _ _ _ _ _  => by kernel_rfl
def B28 (P:PT) (N2:Y k1) (N16:Y k7) (N18:Y k8):Y k8:=fun x1 x3 x4 x5 x6 x7 x8 H=>
  pif (decide ((x8:Int)<2)) (B27 P N2 N16 N18 x1 x3 x4 x5 x6 x7 x8 H) (B17 P N2 N16 x1 x3 x4 x5 x6 x7 H)
def L18 (P:PT) (N2:Y k1) (N16:Y k7):Y k8:=fun x1 x3 x4 x5 x6 x7 x8 H=>
  ∃ (I:Y k8) (μ:NTy k8 (AHeap→Nat)),I x1 x3 x4 x5 x6 x7 x8 H∧∀ y1 y3 y4 y5 y6 y7 y8 G,I y1 y3 y4 y5 y6 y7 y8 G→B28 P N2 N16 (fun z1 z3 z4 z5 z6 z7 z8 G'=>I z1 z3 z4 z5 z6 z7 z8 G'∧μ z1 z3 z4 z5 z6 z7 z8 G'<μ y1 y3 y4 y5 y6 y7 y8 G) y1 y3 y4 y5 y6 y7 y8 G
theorem l18 P N2 N16:LQ k8 (L18 P N2 N16) (B28 P N2 N16):=fun ⟨_,_,_,_,_,_,_,_⟩ _ ⟨I,μ,h0,hI⟩=>⟨apT _ I,apT _ μ,h0,fun ⟨_,_,_,_,_,_,_,_⟩ _ h=>hI _ _ _ _ _ _ _ _  h⟩
def B29 (P:PT) (N2:Y k1) (N16:Y k7):Y k7:=fun x1 x3 x4 x5 x6 x7 H=>
  L18 P N2 N16 x1 x3 x4 x5 x6 x7 0 H
def B30 (P:PT) (N2:Y k1) (N16:Y k7):Y k7:=fun x1 x3 x4 x5 x6 x7 H=>
  lenK x6 (fun n1=>pif (decide ((x7:Int)<(n1:Int))) (B29 P N2 N16 x1 x3 x4 x5 x6 x7 H) (B15 P N2 x1 x3 x4 x5 x6 H))
def L16 (P:PT) (N2:Y k1):Y k7:=fun x1 x3 x4 x5 x6 x7 H=>
  ∃ (I:Y k7) (μ:NTy k7 (AHeap→Nat)),I x1 x3 x4 x5 x6 x7 H∧∀ y1 y3 y4 y5 y6 y7 G,I y1 y3 y4 y5 y6 y7 G→B30 P N2 (fun z1 z3 z4 z5 z6 z7 G'=>I z1 z3 z4 z5 z6 z7 G'∧μ z1 z3 z4 z5 z6 z7 G'<μ y1 y3 y4 y5 y6 y7 G) y1 y3 y4 y5 y6 y7 G
theorem l16 P N2:LQ k7 (L16 P N2) (B30 P N2):=fun ⟨_,_,_,_,_,_,_⟩ _ ⟨I,μ,h0,hI⟩=>⟨apT _ I,apT _ μ,h0,fun ⟨_,_,_,_,_,_,_⟩ _ h=>hI _ _ _ _ _ _ _  h⟩
def B31 (P:PT) (N2:Y k1):Y k6:=fun x1 x3 x4 x5 x6 H=>
  L16 P N2 x1 x3 x4 x5 x6 0 H
def B32 (P:PT) (N2:Y k1):Y k6:=fun x1 x3 x4 x5 x6 H=>
  idxK x3 x5 1 (fun b1 o2=>stK H b1 o2 [(bool true)] (fun H3=>B31 P N2 x1 x3 x4 x5 x6 H3))
def B33 (P:PT) (N2:Y k1):Y k1:=fun x1 x3 x4 x5 H=>
  newK H [(I x5)] 2 (fun b1 H2=>B32 P N2 x1 x3 x4 x5 (slice (some ⟨b1,0,none⟩) 1 (1+1)) H2)
def B34 (P:PT) (N2:Y k1):Y k1:=fun x1 x3 x4 x5 H=>
  idxK x3 x5 1 (fun b1 o2=>ld1 H b1 o2 (fun v4=>asB v4 (fun v3=>pif v3 (B3 P N2 x1 x3 x4 x5 H) (B33 P N2 x1 x3 x4 x5 H))))
def B35 (P:PT) (N2:Y k1):Y k1:=fun x1 x3 x4 x5 H=>
  ld1 H x1 1 (fun v1=>lenK v1 (fun n2=>pif (decide ((x5:Int)<(n2:Int))) (B34 P N2 x1 x3 x4 x5 H) (B1 P x4 H)))
def L2 (P:PT):Y k1:=fun x1 x3 x4 x5 H=>
  ∃ (I:Y k1) (μ:NTy k1 (AHeap→Nat)),I x1 x3 x4 x5 H∧∀ y1 y3 y4 y5 G,I y1 y3 y4 y5 G→B35 P (fun z1 z3 z4 z5 G'=>I z1 z3 z4 z5 G'∧μ z1 z3 z4 z5 G'<μ y1 y3 y4 y5 G) y1 y3 y4 y5 G
theorem l2 P:LQ k1 (L2 P) (B35 P):=fun ⟨_,_,_,_,_⟩ _ ⟨I,μ,h0,hI⟩=>⟨apT _ I,apT _ μ,h0,fun ⟨_,_,_,_,_⟩ _ h=>hI _ _ _ _ _  h⟩
abbrev k11:Sk:=[(1,.x),(3,.v),(4,.v)]
def B36 (P:PT):Y k11:=fun x1 x3 x4 H=>
  L2 P x1 x3 x4 0 H
abbrev k12:Sk:=[(1,.x)]
def B37 (P:PT):Y k12:=fun x1 H=>
  ld1 H x1 1 (fun v1=>lenK v1 (fun n2=>mkR H 1 4 [(bool false)] (n2:Int) (n2:Int) (fun v4 H3=>newK H3 [] 42 (fun b5 H6=>B36 P x1 v4 (slice (some ⟨b5,0,none⟩) 0 (0+1)) H6))))
abbrev k13:Sk:=[(0,.g [.i,.v])]
def B38 (P:PT):Y k13:=fun x0a x0b H=>
  newK H [(I x0a),x0b] 31 (fun b1 H2=>B37 P b1 H2)
def code:Code:=(.seq (R 0 2) (.seq (R 1 6) (.seq (.seq (R 2 28) (.block 0 (.loop (.seq (.seq (R 3 464) (.cond (.tmp 23) .skip (.exit 0))) (.seq (.block 1 (.seq (.seq (R 5 3728) (.cond (.tmp 29) (.exit 1) .skip)) (.seq (R 6 3730) (.seq (R 7 7462) (.seq (.seq (R 8 29852) (.block 2 (.loop (.seq (.seq (R 9 477648) (.cond (.tmp 38) .skip (.exit 2))) (.seq (.block 3 (.seq (R 11 1910600) (.block 4 (.loop (.seq (.seq (R 12 30569616) (.cond (.tmp 42) .skip (.exit 4))) (.seq (.block 5 (.seq (.region 14 ⟨o27⟩ true) (.seq (R 15 244556946) (.block 6 (.loop (.seq (.seq (R 16 3912911152) (.cond (.tmp 58) .skip (.exit 6))) (.seq (.block 7 (.seq (R 18 15651644616) (.cond (.tmp 68) (.seq (R 19 62606578468) (R 20 62606578469)) .skip))) (R 17 3912911155)))))))) (R 13 30569619))))))) (R 10 477651)))))) (.seq (R 21 29854) (.seq (.seq (R 22 119420) (.block 8 (.loop (.seq (.seq (R 23 1910736) (.cond (.tmp 87) .skip (.exit 8))) (.seq (.block 9 (.seq (R 25 7642952) (.block 10 (.loop (.seq (.seq (R 26 122287248) (.cond (.tmp 93) .skip (.exit 10))) (.seq (.block 11 (.seq (R 28 489149000) (.cond (.tmp 101) (R 29 978298002) .skip))) (R 27 122287251))))))) (R 24 1910739)))))) (R 30 59711)))))))) (R 4 467)))))) (.seq (R 31 30) .ret))))
theorem body:Tryz.f69.body=some code:=by kernel_rfl
theorem main P:Z 111 k13 (B38 P) code (ret P):=
  (r_seq (b (E k12 (B37 P))) (r_seq (b (E k11 (B36 P))) (r_seq (r_seq (b (E k1 (L2 P))) (r_block (rL (l2 P) (fun N2=>(r_seq (r_seq (b (cnd 23 (E k1 (B34 P N2)) (E k0 (B1 P)))) (r_cond rfl r_skip (r_exit (fun _ _ h=>h)))) (r_seq (r_block (r_seq (r_seq (b (cnd 29 (E k1 (B3 P N2)) (E k1 (B33 P N2)))) (r_cond rfl (r_exit (fun _ _ h=>h)) r_skip)) (r_seq (b (E k6 (B32 P N2))) (r_seq (b (E k6 (B31 P N2))) (r_seq (r_seq (b (E k7 (L16 P N2))) (r_block (rL (l16 P N2) (fun N16=>(r_seq (r_seq (b (cnd 38 (E k7 (B29 P N2 N16)) (E k6 (B15 P N2)))) (r_cond rfl r_skip (r_exit (fun _ _ h=>h)))) (r_seq (r_block (r_seq (b (E k8 (L18 P N2 N16))) (r_block (rL (l18 P N2 N16) (fun N18=>(r_seq (r_seq (b (cnd 42 (E k8 (B27 P N2 N16 N18)) (E k7 (B17 P N2 N16)))) (r_cond rfl r_skip (r_exit (fun _ _ h=>h)))) (r_seq (r_block (r_seq (rD T0_ok mixed [(0,false),(1,false),(2,false),(3,false),(4,false),(5,false),(6,false),(7,false),(8,false),(9,false),(10,false),(11,false),(12,false)] (by kernel_rfl) (q27 P N2 N16 N18)) (r_seq (b (E k9 (L20 P N2 N16 N18))) (r_block (rL (l20 P N2 N16 N18) (fun N20=>(r_seq (r_seq (b (cnd 58 (E k9 (B24 P N2 N16 N18 N20)) (E k8 (B19 P N2 N16 N18)))) (r_cond rfl r_skip (r_exit (fun _ _ h=>h)))) (r_seq (r_block (r_seq (b (cnd 68 (E k9 (B23 P N2 N16 N18 N20)) (E k9 (B21 P N2 N16 N18 N20)))) (r_cond rfl (r_seq (b (E k9 (B22 P N2 N16 N18 N20))) (b (E k9 (B21 P N2 N16 N18 N20)))) r_skip))) (b (E k9 N20)))))))))) (b (E k8 N18))))))))) (b (E k7 N16)))))))) (r_seq (b (E k5 (B14 P N2))) (r_seq (r_seq (b (E k3 (L5 P N2))) (r_block (rL (l5 P N2) (fun N5=>(r_seq (r_seq (b (cnd 87 (E k3 (B12 P N2 N5)) (E k2 (B4 P N2)))) (r_cond rfl r_skip (r_exit (fun _ _ h=>h)))) (r_seq (r_block (r_seq (b (E k4 (L7 P N2 N5))) (r_block (rL (l7 P N2 N5) (fun N7=>(r_seq (r_seq (b (cnd 93 (E k4 (B10 P N2 N5 N7)) (E k3 (B6 P N2 N5)))) (r_cond rfl r_skip (r_exit (fun _ _ h=>h)))) (r_seq (r_block (r_seq (b (cnd 101 (E k4 (B9 P N2 N5 N7)) (E k4 (B8 P N2 N5 N7)))) (r_cond rfl (b (E k4 (B8 P N2 N5 N7))) r_skip))) (b (E k4 N7))))))))) (b (E k3 N5)))))))) (b (E k1 (B3 P N2)))))))))) (b (E k1 N2)))))))) (r_seq (b (ret P)) r_ret))))
theorem ac (P:PT) (x0a:Int) (x0b:Value) (H:AHeap) (h:B38 P x0a x0b H):A 69 [(agg ⟨[(I x0a),x0b]⟩)] H P:=
  r_fn T0_ok (c:=code) (n:=111) Tryz.func69 body (by kernel_rfl) (main P) (En_mk (x0a,x0b,()) (by kernel_rfl) ⟨by kernel_rfl,trivial⟩ h)

end F69
namespace F70
abbrev E:=En 79
def O (k:Nat):=ob Tryz.f70 (pth k)
abbrev R (i k:Nat):Code:=.region i ⟨O k⟩ false
def ret (P:PT):EP:=retE T0 79 Tryz.f70 P
abbrev k0:Sk:=[(10,J)]
def B1 (P:PT):Y k0:=fun x10 H=>
  P (I x10) H
abbrev k1:Sk:=[(1,.v),(2,.v),(3,J),(4,.x),(9,J),(10,J),(12,J),(14,J)]
def B3 (P:PT) (N2:Y k1):Y k1:=fun x1 x2 x3 x4 x9 x10 x12 x14 H=>
  N2 x1 x2 x3 x4 x9 x10 x12 (i64.wrap (x14+1)) H
abbrev k2:Sk:=[(1,.v),(2,.v),(3,J),(4,.x),(9,J),(10,J),(12,J),(14,J),(15,.v)]
def B4 (P:PT) (N2:Y k1):Y k2:=fun x1 x2 x3 x4 x9 x10 x12 x14 x15 H=>
  li H x4 0 (fun v1=>ld1 H x4 1 (fun v2=>A 70 [(agg ⟨[(I v1),v2]⟩),x1,x15,(I (i64.wrap (x3+1)))] H (fun v3 H4=>asI .i64 v3 (fun v5=>B3 P N2 x1 x2 x3 x4 x9 (i64.wrap (x10+v5)) x12 x14 H4))))
def o5:=O 64806
def B5 (P:PT) (N2:Y k1):Y k2:=fun x1 x2 x3 x4 x9 x10 x12 x14 x15 H=>
  idxK x15 x9 1 (fun b1 o2=>stK H b1 o2 [(I x14)] (fun H3=>B4 P N2 x1 x2 x3 x4 x9 x10 x12 x14 x15 H3))
def B6 (P:PT) (N2:Y k1):Y k1:=fun x1 x2 x3 x4 x9 x10 x12 x14 H=>
  A 89 [x2] H (fun v1 H2=>B5 P N2 x1 x2 x3 x4 x9 x10 x12 x14 v1 H2)
def B7 (P:PT) (N2:Y k1):Y k1:=fun x1 x2 x3 x4 x9 x10 x12 x14 H=>
  pif (decide ((x12:Int)≥0)) (pif ((x14:Int) != x12) (B3 P N2 x1 x2 x3 x4 x9 x10 x12 x14 H) (li H x4 0 (fun v1=>ld1 H x4 1 (fun v2=>A 133 [(agg ⟨[(I v1),v2]⟩),x2,(I x9),(I x14)] H (fun v3 H4=>asB v3 (fun v5=>pif (!v5) (B3 P N2 x1 x2 x3 x4 x9 x10 x12 x14 H4) (B6 P N2 x1 x2 x3 x4 x9 x10 x12 x14 H4))))))) (li H x4 0 (fun v6=>ld1 H x4 1 (fun v7=>A 133 [(agg ⟨[(I v6),v7]⟩),x2,(I x9),(I x14)] H (fun v8 H9=>asB v8 (fun v10=>pif (!v10) (B3 P N2 x1 x2 x3 x4 x9 x10 x12 x14 H9) (B6 P N2 x1 x2 x3 x4 x9 x10 x12 x14 H9))))))
def o8:=O 4048
def B8 (P:PT) (N2:Y k1):Y k1:=fun x1 x2 x3 x4 x9 x10 x12 x14 H=>
  pif (decide ((x14:Int)<3)) (B7 P N2 x1 x2 x3 x4 x9 x10 x12 x14 H) (B1 P x10 H)
def L2 (P:PT):Y k1:=fun x1 x2 x3 x4 x9 x10 x12 x14 H=>
  ∃ (I:Y k1) (μ:NTy k1 (AHeap→Nat)),I x1 x2 x3 x4 x9 x10 x12 x14 H∧∀ y1 y2 y3 y4 y9 y10 y12 y14 G,I y1 y2 y3 y4 y9 y10 y12 y14 G→B8 P (fun z1 z2 z3 z4 z9 z10 z12 z14 G'=>I z1 z2 z3 z4 z9 z10 z12 z14 G'∧μ z1 z2 z3 z4 z9 z10 z12 z14 G'<μ y1 y2 y3 y4 y9 y10 y12 y14 G) y1 y2 y3 y4 y9 y10 y12 y14 G
theorem l2 P:LQ k1 (L2 P) (B8 P):=fun ⟨_,_,_,_,_,_,_,_,_⟩ _ ⟨I,μ,h0,hI⟩=>⟨apT _ I,apT _ μ,h0,fun ⟨_,_,_,_,_,_,_,_,_⟩ _ h=>hI _ _ _ _ _ _ _ _ _  h⟩
abbrev k3:Sk:=[(1,.v),(2,.v),(3,J),(4,.x),(9,J),(10,J),(12,J)]
def B9 (P:PT):Y k3:=fun x1 x2 x3 x4 x9 x10 x12 H=>
  L2 P x1 x2 x3 x4 x9 x10 x12 0 H
abbrev k4:Sk:=[(1,.v),(2,.v),(3,J),(4,.x),(9,J),(10,J),(11,.v),(12,J),(13,J)]
def B11 (P:PT) (N10:Y k4):Y k4:=fun x1 x2 x3 x4 x9 x10 x11 x12 x13 H=>
  N10 x1 x2 x3 x4 x9 x10 x11 x12 (i64.wrap (x13+1)) H
abbrev k5:Sk:=[(1,.v),(2,.v),(3,J),(4,.x),(9,J),(10,J),(11,.v),(13,J)]
def B12 (P:PT) (N10:Y k4):Y k5:=fun x1 x2 x3 x4 x9 x10 x11 x13 H=>
  B11 P N10 x1 x2 x3 x4 x9 x10 x11 x13 x13 H
def B13 (P:PT) (N10:Y k4):Y k4:=fun x1 x2 x3 x4 x9 x10 x11 x12 x13 H=>
  idxK x11 x13 1 (fun b1 o2=>li H b1 o2 (fun v3=>pif ((v3:Int)==x9) (B12 P N10 x1 x2 x3 x4 x9 x10 x11 x13 H) (B11 P N10 x1 x2 x3 x4 x9 x10 x11 x12 x13 H)))
def B14 (P:PT) (N10:Y k4):Y k4:=fun x1 x2 x3 x4 x9 x10 x11 x12 x13 H=>
  pif (decide ((x13:Int)<3)) (B13 P N10 x1 x2 x3 x4 x9 x10 x11 x12 x13 H) (B9 P x1 x2 x3 x4 x9 x10 x12 H)
def L10 (P:PT):Y k4:=fun x1 x2 x3 x4 x9 x10 x11 x12 x13 H=>
  ∃ (I:Y k4) (μ:NTy k4 (AHeap→Nat)),I x1 x2 x3 x4 x9 x10 x11 x12 x13 H∧∀ y1 y2 y3 y4 y9 y10 y11 y12 y13 G,I y1 y2 y3 y4 y9 y10 y11 y12 y13 G→B14 P (fun z1 z2 z3 z4 z9 z10 z11 z12 z13 G'=>I z1 z2 z3 z4 z9 z10 z11 z12 z13 G'∧μ z1 z2 z3 z4 z9 z10 z11 z12 z13 G'<μ y1 y2 y3 y4 y9 y10 y11 y12 y13 G) y1 y2 y3 y4 y9 y10 y11 y12 y13 G
theorem l10 P:LQ k4 (L10 P) (B14 P):=fun ⟨_,_,_,_,_,_,_,_,_,_⟩ _ ⟨I,μ,h0,hI⟩=>⟨apT _ I,apT _ μ,h0,fun ⟨_,_,_,_,_,_,_,_,_,_⟩ _ h=>hI _ _ _ _ _ _ _ _ _ _  h⟩
abbrev k6:Sk:=[(1,.v),(2,.v),(3,J),(4,.x),(9,J),(10,J),(11,.v),(12,J)]
def B15 (P:PT):Y k6:=fun x1 x2 x3 x4 x9 x10 x11 x12 H=>
  L10 P x1 x2 x3 x4 x9 x10 x11 x12 0 H
abbrev k7:Sk:=[(1,.v),(2,.v),(3,J),(4,.x),(9,J),(10,J)]
def o16:=O 30
def B16 (P:PT):Y k7:=fun x1 x2 x3 x4 x9 x10 H=>
  li H x4 0 (fun v1=>ld1 H x4 1 (fun v2=>ld1 H x4 1 (fun v3=>idxK x1 0 1 (fun b4 o5=>li H b4 o5 (fun v6=>idxK v3 v6 2 (fun b7 o8=>li H b7 o8 (fun v9=>A 132 [(agg ⟨[(I v1),v2]⟩),(I v9)] H (fun v10 H11=>B15 P x1 x2 x3 x4 x9 x10 v10 (-1) H11))))))))
theorem q16 (P:PT):QD Tryz.prog T0 79 o16 [(0,false),(1,false),(2,false),(3,false),(4,false),(5,false),(6,false),(7,false),(8,false),(9,false),(10,false),(11,false)] (En 79 k6 (B15 P)) k7 (B16 P):=fun _ _ _ _ _ _ _ _  => by kernel_rfl
abbrev k8:Sk:=[(1,.v),(2,.v),(3,J),(4,.x)]
def B17 (P:PT):Y k8:=fun x1 x2 x3 x4 H=>
  idxK x1 x3 1 (fun b1 o2=>li H b1 o2 (fun v3=>B16 P x1 x2 x3 x4 v3 0 H))
abbrev k9:Sk:=[]
def B18 (P:PT):Y k9:=fun H=>
  P (I 1) H
def B19 (P:PT):Y k8:=fun x1 x2 x3 x4 H=>
  lenK x1 (fun n1=>pif ((x3:Int)==(n1:Int)) (B18 P H) (B17 P x1 x2 x3 x4 H))
abbrev k10:Sk:=[(0,.g [.i,.v]),(1,.v),(2,.v),(3,J)]
def B20 (P:PT):Y k10:=fun x0a x0b x1 x2 x3 H=>
  newK H [(I x0a),x0b] 31 (fun b1 H2=>B19 P x1 x2 x3 b1 H2)
def code:Code:=(.seq (R 0 2) (.seq (.seq (R 1 12) (.cond (.tmp 19) (.seq (R 2 52) .ret) .skip)) (.seq (R 3 14) (.seq (.region 4 ⟨o16⟩ true) (.seq (.seq (R 5 124) (.block 0 (.loop (.seq (.seq (R 6 2000) (.cond (.tmp 35) .skip (.exit 0))) (.seq (.block 1 (.seq (R 8 8008) (.cond (.tmp 43) (R 9 16018) .skip))) (R 7 2003)))))) (.seq (.seq (R 10 252) (.block 2 (.loop (.seq (.seq (R 11 4048) (.cond (.tmp 46) .skip (.exit 2))) (.seq (.block 3 (.seq (.seq (R 13 32400) (.cond (.tmp 63) (.exit 3) .skip)) (.seq (R 14 32402) (.seq (R 15 64806) (R 16 64807))))) (R 12 4051)))))) (.seq (R 17 254) .ret)))))))
theorem body:Tryz.f70.body=some code:=by kernel_rfl
theorem main P:Z 79 k10 (B20 P) code (ret P):=
  (r_seq (b (E k8 (B19 P))) (r_seq (r_seq (b (cnd 19 (E k9 (B18 P)) (E k8 (B17 P)))) (r_cond rfl (r_seq (b (ret P)) r_ret) r_skip)) (r_seq (b (E k7 (B16 P))) (r_seq (rD T0_ok mixed [(0,false),(1,false),(2,false),(3,false),(4,false),(5,false),(6,false),(7,false),(8,false),(9,false),(10,false),(11,false)] (by kernel_rfl) (q16 P)) (r_seq (r_seq (b (E k4 (L10 P))) (r_block (rL (l10 P) (fun N10=>(r_seq (r_seq (b (cnd 35 (E k4 (B13 P N10)) (E k3 (B9 P)))) (r_cond rfl r_skip (r_exit (fun _ _ h=>h)))) (r_seq (r_block (r_seq (b (cnd 43 (E k5 (B12 P N10)) (E k4 (B11 P N10)))) (r_cond rfl (b (E k4 (B11 P N10))) r_skip))) (b (E k4 N10)))))))) (r_seq (r_seq (b (E k1 (L2 P))) (r_block (rL (l2 P) (fun N2=>(r_seq (r_seq (b (cnd 46 (E k1 (B7 P N2)) (E k0 (B1 P)))) (r_cond rfl r_skip (r_exit (fun _ _ h=>h)))) (r_seq (r_block (r_seq (r_seq (b (cnd 63 (E k1 (B3 P N2)) (E k1 (B6 P N2)))) (r_cond rfl (r_exit (fun _ _ h=>h)) r_skip)) (r_seq (b (E k2 (B5 P N2))) (r_seq (b (E k2 (B4 P N2))) (b (E k1 (B3 P N2))))))) (b (E k1 N2)))))))) (r_seq (b (ret P)) r_ret)))))))
theorem ac (P:PT) (x0a:Int) (x0b x1 x2:Value) (x3:Int) (H:AHeap) (h:B20 P x0a x0b x1 x2 x3 H):A 70 [(agg ⟨[(I x0a),x0b]⟩),x1,x2,(I x3)] H P:=
  r_fn T0_ok (c:=code) (n:=79) Tryz.func70 body (by kernel_rfl) (main P) (En_mk (x0a,x0b,x1,x2,x3,()) (by kernel_rfl) ⟨by kernel_rfl,by kernel_rfl,by kernel_rfl,by kernel_rfl,trivial⟩ h)

end F70
namespace F71
abbrev E:=En 14
def O (k:Nat):=ob Tryz.f71 (pth k)
abbrev R (i k:Nat):Code:=.region i ⟨O k⟩ false
def ret (P:PT):EP:=retE T0 14 Tryz.f71 P
abbrev k0:Sk:=[(5,.x),(6,.x)]
def o1:=O 62
def B1 (P:PT):Y k0:=fun x5 x6 H=>
  ldI .u64 H x5 0 (fun v1=>li H x6 0 (fun v2=>li H x6 0 (fun v3=>P (tuple ⟨[(int .u64 v1),(I v2),(bool ((v3:Int) != (-1)))]⟩) H)))
theorem q1 (P:PT):QD Tryz.prog T0 14 o1 [(0,false),(1,false),(2,false),(3,false),(4,false),(5,false),(6,false)] (ret P) k0 (B1 P):=fun _ _ _ _  => by kernel_rfl
abbrev k1:Sk:=[(1,.x),(5,.x),(6,.x)]
def B2 (P:PT):Y k1:=fun x1 x5 x6 H=>
  li H x1 0 (fun v1=>ld1 H x1 1 (fun v2=>A 109 [(agg ⟨[(I v1),v2]⟩),(func (.func 134) ⟨[]⟩ ⟨[(pointer (some ⟨x1,0,none⟩)),(pointer (some ⟨x6,0,none⟩)),(pointer (some ⟨x5,0,none⟩))]⟩)] H (fun v3 H4=>asB v3 (fun v5=>B1 P x5 x6 H4))))
abbrev k2:Sk:=[(1,.x),(5,.x)]
def B3 (P:PT):Y k2:=fun x1 x5 H=>
  newK H [(I 0)] 2 (fun b1 H2=>stK H2 b1 0 [(I (-1))] (fun H3=>B2 P x1 x5 b1 H3))
abbrev k3:Sk:=[(1,.x)]
def B4 (P:PT):Y k3:=fun x1 H=>
  newK H [(int .u64 0)] 83 (fun b1 H2=>B3 P x1 b1 H2)
abbrev k4:Sk:=[(0,.g [.i,.v])]
def B5 (P:PT):Y k4:=fun x0a x0b H=>
  newK H [(I x0a),x0b] 31 (fun b1 H2=>B4 P b1 H2)
def code:Code:=(.seq (R 0 2) (.seq (R 1 6) (.seq (R 2 14) (.seq (R 3 30) (.seq (.region 4 ⟨o1⟩ true) .ret)))))
theorem body:Tryz.f71.body=some code:=by kernel_rfl
theorem main P:Z 14 k4 (B5 P) code (ret P):=
  (r_seq (b (E k3 (B4 P))) (r_seq (b (E k2 (B3 P))) (r_seq (b (E k1 (B2 P))) (r_seq (b (E k0 (B1 P))) (r_seq (rD T0_ok mixed [(0,false),(1,false),(2,false),(3,false),(4,false),(5,false),(6,false)] (by kernel_rfl) (q1 P)) r_ret)))))
theorem ac (P:PT) (x0a:Int) (x0b:Value) (H:AHeap) (h:B5 P x0a x0b H):A 71 [(agg ⟨[(I x0a),x0b]⟩)] H P:=
  r_fn T0_ok (c:=code) (n:=14) Tryz.func71 body (by kernel_rfl) (main P) (En_mk (x0a,x0b,()) (by kernel_rfl) ⟨by kernel_rfl,trivial⟩ h)

end F71
namespace F72
abbrev E:=En 18
def O (k:Nat):=ob Tryz.f72 (pth k)
abbrev R (i k:Nat):Code:=.region i ⟨O k⟩ false
def ret (P:PT):EP:=retE T0 18 Tryz.f72 P
abbrev k0:Sk:=[]
def B1 (P:PT):Y k0:=fun H=>
  P (I 0) H
def B2 (P:PT):Y k0:=fun H=>
  P (I 3) H
abbrev k1:Sk:=[(2,J),(3,.x)]
def B3 (P:PT):Y k1:=fun x2 x3 H=>
  li H x3 0 (fun v1=>pif (decide ((v1:Int)>x2)) (B2 P H) (B1 P H))
abbrev k2:Sk:=[(7,J)]
def B4 (P:PT):Y k2:=fun x7 H=>
  P (I x7) H
abbrev k3:Sk:=[(2,J),(3,.x),(7,J)]
def B5 (P:PT):Y k3:=fun x2 x3 x7 H=>
  pif ((x7:Int) != 0) (B4 P x7 H) (B3 P x2 x3 H)
abbrev k4:Sk:=[(1,.b),(2,J),(3,.x)]
def B6 (P:PT):Y k4:=fun x1 x2 x3 H=>
  li H x3 0 (fun v1=>ld1 H x3 1 (fun v2=>A 55 [(agg ⟨[(I v1),v2]⟩),(bool x1)] H (fun v3 H4=>asI .i64 v3 (fun v5=>B5 P x2 x3 v5 H4))))
abbrev k5:Sk:=[(0,.g [.i,.v]),(1,.b),(2,J)]
def B7 (P:PT):Y k5:=fun x0a x0b x1 x2 H=>
  newK H [(I x0a),x0b] 31 (fun b1 H2=>B6 P x1 x2 b1 H2)
def code:Code:=(.seq (R 0 2) (.seq (.seq (R 1 12) (.seq (R 2 26) (.cond (.tmp 12) (.seq (R 3 108) .ret) .skip))) (.seq (.seq (R 4 28) (.cond (.tmp 17) (.seq (R 5 116) .ret) .skip)) (.seq (R 6 30) .ret))))
theorem body:Tryz.f72.body=some code:=by kernel_rfl
theorem main P:Z 18 k5 (B7 P) code (ret P):=
  (r_seq (b (E k4 (B6 P))) (r_seq (r_seq (b (E k3 (B5 P))) (r_seq (b (cnd 12 (E k2 (B4 P)) (E k1 (B3 P)))) (r_cond rfl (r_seq (b (ret P)) r_ret) r_skip))) (r_seq (r_seq (b (cnd 17 (E k0 (B2 P)) (E k0 (B1 P)))) (r_cond rfl (r_seq (b (ret P)) r_ret) r_skip)) (r_seq (b (ret P)) r_ret))))
theorem ac (P:PT) (x0a:Int) (x0b:Value) (x1:Bool) (x2:Int) (H:AHeap) (h:B7 P x0a x0b x1 x2 H):A 72 [(agg ⟨[(I x0a),x0b]⟩),(bool x1),(I x2)] H P:=
  r_fn T0_ok (c:=code) (n:=18) Tryz.func72 body (by kernel_rfl) (main P) (En_mk (x0a,x0b,x1,x2,()) (by kernel_rfl) ⟨by kernel_rfl,by kernel_rfl,by kernel_rfl,trivial⟩ h)

end F72
namespace F73
abbrev E:=En 14
def O (k:Nat):=ob Tryz.f73 (pth k)
abbrev R (i k:Nat):Code:=.region i ⟨O k⟩ false
def ret (P:PT):EP:=retE T0 14 Tryz.f73 P
abbrev k0:Sk:=[(1,.x),(3,.x),(4,J)]
def B2 (P:PT) (N1:Y k0):Y k0:=fun x1 x3 x4 H=>
  N1 x1 x3 (i64.wrap (x4+1)) H
abbrev k1:Sk:=[(3,.x)]
def B3 (P:PT) (N1:Y k0):Y k1:=fun x3 H=>
  ldI .u64 H x3 0 (fun v1=>P (int .u64 v1) H)
def B4 (P:PT) (N1:Y k0):Y k0:=fun x1 x3 x4 H=>
  ld1 H x1 1 (fun v1=>A 115 [v1] H (fun v2 H3=>asI .i64 v2 (fun v4=>A 136 [(I v4),(I x4),(func (.func 137) ⟨[]⟩ ⟨[(pointer (some ⟨x3,0,none⟩)),(pointer (some ⟨x1,0,none⟩))]⟩)] H3 (fun v5 H6=>asB v5 (fun v7=>pif v7 (B3 P N1 x3 H6) (B2 P N1 x1 x3 x4 H6))))))
def L1 (P:PT):Y k0:=fun x1 x3 x4 H=>
  ∃ (I:Y k0) (μ:NTy k0 (AHeap→Nat)),I x1 x3 x4 H∧∀ y1 y3 y4 G,I y1 y3 y4 G→B4 P (fun z1 z3 z4 G'=>I z1 z3 z4 G'∧μ z1 z3 z4 G'<μ y1 y3 y4 G) y1 y3 y4 G
theorem l1 P:LQ k0 (L1 P) (B4 P):=fun ⟨_,_,_,_⟩ _ ⟨I,μ,h0,hI⟩=>⟨apT _ I,apT _ μ,h0,fun ⟨_,_,_,_⟩ _ h=>hI _ _ _ _  h⟩
abbrev k2:Sk:=[(1,.x),(3,.x)]
def B5 (P:PT):Y k2:=fun x1 x3 H=>
  L1 P x1 x3 0 H
abbrev k3:Sk:=[(1,.x)]
def B6 (P:PT):Y k3:=fun x1 H=>
  newK H [(int .u64 0)] 83 (fun b1 H2=>B5 P x1 b1 H2)
abbrev k4:Sk:=[(0,.g [.i,.v])]
def B7 (P:PT):Y k4:=fun x0a x0b H=>
  newK H [(I x0a),x0b] 31 (fun b1 H2=>B6 P b1 H2)
def code:Code:=(.seq (R 0 2) (.seq (R 1 6) (.seq (R 2 14) (.block 0 (.loop (.seq (.block 1 (.seq (R 4 480) (.cond (.tmp 12) (.seq (R 5 1924) .ret) .skip))) (R 3 121)))))))
theorem body:Tryz.f73.body=some code:=by kernel_rfl
theorem main P:Z 14 k4 (B7 P) code (ret P):=
  (r_seq (b (E k3 (B6 P))) (r_seq (b (E k2 (B5 P))) (r_seq (b (E k0 (L1 P))) (r_block (rL (l1 P) (fun N1=>(r_seq (r_block (r_seq (b (cnd 12 (E k1 (B3 P N1)) (E k0 (B2 P N1)))) (r_cond rfl (r_seq (b (ret P)) r_ret) r_skip))) (b (E k0 N1)))))))))
theorem ac (P:PT) (x0a:Int) (x0b:Value) (H:AHeap) (h:B7 P x0a x0b H):A 73 [(agg ⟨[(I x0a),x0b]⟩)] H P:=
  r_fn T0_ok (c:=code) (n:=14) Tryz.func73 body (by kernel_rfl) (main P) (En_mk (x0a,x0b,()) (by kernel_rfl) ⟨by kernel_rfl,trivial⟩ h)

end F73
namespace F74
abbrev E:=En 5
def O (k:Nat):=ob Tryz.f74 (pth k)
abbrev R (i k:Nat):Code:=.region i ⟨O k⟩ false
def ret (P:PT):EP:=retE T0 5 Tryz.f74 P
abbrev k0:Sk:=[(0,.i .u64)]
def B1 (P:PT):Y k0:=fun x0 H=>
  A 139 [(int .u64 x0)] H (fun v1 H2=>asI .i64 v1 (fun v3=>P (I v3) H2))
def B2 (P:PT):Y k0:=fun x0 H=>
  B1 P x0 H
def code:Code:=(.seq (R 0 2) (.seq (R 1 6) .ret))
theorem body:Tryz.f74.body=some code:=by kernel_rfl
theorem main P:Z 5 k0 (B2 P) code (ret P):=
  (r_seq (b (E k0 (B1 P))) (r_seq (b (ret P)) r_ret))
theorem ac (P:PT) (x0:Int) (H:AHeap) (h:B2 P x0 H):A 74 [(int .u64 x0)] H P:=
  r_fn T0_ok (c:=code) (n:=5) Tryz.func74 body (by kernel_rfl) (main P) (En_mk (x0,()) (by kernel_rfl) ⟨by kernel_rfl,trivial⟩ h)

end F74
namespace F75
abbrev E:=En 10
def O (k:Nat):=ob Tryz.f75 (pth k)
abbrev R (i k:Nat):Code:=.region i ⟨O k⟩ false
def ret (P:PT):EP:=retE T0 10 Tryz.f75 P
abbrev k0:Sk:=[(5,.x)]
def B1 (P:PT):Y k0:=fun x5 H=>
  li H x5 0 (fun v1=>P (I v1) H)
abbrev k1:Sk:=[(2,.x),(3,.x),(5,.x)]
def B2 (P:PT):Y k1:=fun x2 x3 x5 H=>
  li H x2 0 (fun v1=>ld1 H x2 1 (fun v2=>A 109 [(agg ⟨[(I v1),v2]⟩),(func (.func 140) ⟨[]⟩ ⟨[(pointer (some ⟨x3,0,none⟩)),(pointer (some ⟨x5,0,none⟩))]⟩)] H (fun v3 H4=>asB v3 (fun v5=>B1 P x5 H4))))
abbrev k2:Sk:=[(2,.x),(3,.x)]
def B3 (P:PT):Y k2:=fun x2 x3 H=>
  newK H [(I 0)] 2 (fun b1 H2=>B2 P x2 x3 b1 H2)
abbrev k3:Sk:=[(0,.g [.i,.v]),(1,.i .u64)]
def B4 (P:PT):Y k3:=fun x0a x0b x1 H=>
  newK H [(I x0a),x0b] 31 (fun b1 H2=>newK H2 [(int .u64 x1)] 83 (fun b3 H4=>B3 P b1 b3 H4))
def code:Code:=(.seq (R 0 2) (.seq (R 1 6) (.seq (R 2 14) (.seq (R 3 30) .ret))))
theorem body:Tryz.f75.body=some code:=by kernel_rfl
theorem main P:Z 10 k3 (B4 P) code (ret P):=
  (r_seq (b (E k2 (B3 P))) (r_seq (b (E k1 (B2 P))) (r_seq (b (E k0 (B1 P))) (r_seq (b (ret P)) r_ret))))
theorem ac (P:PT) (x0a:Int) (x0b:Value) (x1:Int) (H:AHeap) (h:B4 P x0a x0b x1 H):A 75 [(agg ⟨[(I x0a),x0b]⟩),(int .u64 x1)] H P:=
  r_fn T0_ok (c:=code) (n:=10) Tryz.func75 body (by kernel_rfl) (main P) (En_mk (x0a,x0b,x1,()) (by kernel_rfl) ⟨by kernel_rfl,by kernel_rfl,trivial⟩ h)

end F75
namespace F76
abbrev E:=En 30
def O (k:Nat):=ob Tryz.f76 (pth k)
abbrev R (i k:Nat):Code:=.region i ⟨O k⟩ false
def ret (P:PT):EP:=retE T0 30 Tryz.f76 P
abbrev k0:Sk:=[(3,.x)]
def B1 (P:PT):Y k0:=fun x3 H=>
  ld1 H x3 0 (fun v1=>P v1 H)
abbrev k1:Sk:=[(1,.x),(3,.x),(12,.v),(13,J),(14,J)]
def B3 (P:PT) (N2:Y k1):Y k1:=fun x1 x3 x12 x13 x14 H=>
  N2 x1 x3 x12 x13 (i64.wrap (x14+1)) H
abbrev k2:Sk:=[]
def B4 (P:PT) (N2:Y k1):Y k2:=fun H=>
  P (slice none 0 0) H
abbrev k3:Sk:=[(1,.x),(3,.x),(6,.b),(12,.v),(13,J),(14,J)]
def B5 (P:PT) (N2:Y k1):Y k3:=fun x1 x3 x6 x12 x13 x14 H=>
  pif (!x6) (B4 P N2 H) (B3 P N2 x1 x3 x12 x13 x14 H)
abbrev k4:Sk:=[(1,.x),(3,.x),(4,J),(5,.x),(12,.v),(13,J),(14,J)]
def B6 (P:PT) (N2:Y k1):Y k4:=fun x1 x3 x4 x5 x12 x13 x14 H=>
  li H x1 0 (fun v1=>ld1 H x1 1 (fun v2=>ld1 H x5 0 (fun v3=>A 126 [(agg ⟨[(I v1),v2]⟩),v3,(bool ((x4:Int)==0)),(func (.func 141) ⟨[]⟩ ⟨[(pointer (some ⟨x5,0,none⟩)),(pointer (some ⟨x3,0,none⟩))]⟩)] H (fun v4 H5=>A 128 [v4] H5 (fun v7 H8=>asB v7 (fun v9=>B5 P N2 x1 x3 v9 x12 x13 x14 H8))))))
def B7 (P:PT) (N2:Y k1):Y k1:=fun x1 x3 x12 x13 x14 H=>
  idxK x12 x14 1 (fun b1 o2=>ld1 H b1 o2 (fun v3=>newK H [(slice none 0 0)] 42 (fun b4 H5=>pif (Value.oneCell' v3) (stK H5 b4 0 [v3] (fun H6=>B6 P N2 x1 x3 x14 b4 x12 x13 x14 H6)) False)))
def B8 (P:PT) (N2:Y k1):Y k1:=fun x1 x3 x12 x13 x14 H=>
  pif (decide ((x14:Int)<x13)) (B7 P N2 x1 x3 x12 x13 x14 H) (B1 P x3 H)
def L2 (P:PT):Y k1:=fun x1 x3 x12 x13 x14 H=>
  ∃ (I:Y k1) (μ:NTy k1 (AHeap→Nat)),I x1 x3 x12 x13 x14 H∧∀ y1 y3 y12 y13 y14 G,I y1 y3 y12 y13 y14 G→B8 P (fun z1 z3 z12 z13 z14 G'=>I z1 z3 z12 z13 z14 G'∧μ z1 z3 z12 z13 z14 G'<μ y1 y3 y12 y13 y14 G) y1 y3 y12 y13 y14 G
theorem l2 P:LQ k1 (L2 P) (B8 P):=fun ⟨_,_,_,_,_,_⟩ _ ⟨I,μ,h0,hI⟩=>⟨apT _ I,apT _ μ,h0,fun ⟨_,_,_,_,_,_⟩ _ h=>hI _ _ _ _ _ _  h⟩
abbrev k5:Sk:=[(1,.x),(3,.x)]
def B9 (P:PT):Y k5:=fun x1 x3 H=>
  li H x1 0 (fun v1=>ld1 H x1 1 (fun v2=>A 125 [(agg ⟨[(I v1),v2]⟩)] H (fun v3 H4=>lenK v3 (fun n6=>L2 P x1 x3 v3 (n6:Int) 0 H4))))
abbrev k6:Sk:=[(1,.x)]
def B10 (P:PT):Y k6:=fun x1 H=>
  ld1 H x1 1 (fun v1=>lenK v1 (fun n2=>mkR H 8 2 [(I 0)] (n2:Int) (n2:Int) (fun v4 H3=>newK H3 [(slice none 0 0)] 42 (fun b5 H6=>pif (Value.oneCell' v4) (stK H6 b5 0 [v4] (fun H7=>B9 P x1 b5 H7)) False))))
abbrev k7:Sk:=[(0,.g [.i,.v])]
def B11 (P:PT):Y k7:=fun x0a x0b H=>
  newK H [(I x0a),x0b] 31 (fun b1 H2=>B10 P b1 H2)
def code:Code:=(.seq (R 0 2) (.seq (R 1 6) (.seq (.seq (R 2 28) (.block 0 (.loop (.seq (R 3 232) (.seq (.cond (.tmp 15) .skip (.exit 0)) (.seq (.block 1 (.seq (R 4 3736) (.seq (R 5 7474) (.seq (R 6 14950) (.cond (.tmp 27) (.seq (R 7 59804) .ret) .skip))))) (R 8 935))))))) (.seq (R 9 30) .ret))))
theorem body:Tryz.f76.body=some code:=by kernel_rfl
theorem main P:Z 30 k7 (B11 P) code (ret P):=
  (r_seq (b (E k6 (B10 P))) (r_seq (b (E k5 (B9 P))) (r_seq (r_seq (b (E k1 (L2 P))) (r_block (rL (l2 P) (fun N2=>(r_seq (b (cnd 15 (E k1 (B7 P N2)) (E k0 (B1 P)))) (r_seq (r_cond rfl r_skip (r_exit (fun _ _ h=>h))) (r_seq (r_block (r_seq (b (E k4 (B6 P N2))) (r_seq (b (E k3 (B5 P N2))) (r_seq (b (cnd 27 (E k2 (B4 P N2)) (E k1 (B3 P N2)))) (r_cond rfl (r_seq (b (ret P)) r_ret) r_skip))))) (b (E k1 N2))))))))) (r_seq (b (ret P)) r_ret))))
theorem ac (P:PT) (x0a:Int) (x0b:Value) (H:AHeap) (h:B11 P x0a x0b H):A 76 [(agg ⟨[(I x0a),x0b]⟩)] H P:=
  r_fn T0_ok (c:=code) (n:=30) Tryz.func76 body (by kernel_rfl) (main P) (En_mk (x0a,x0b,()) (by kernel_rfl) ⟨by kernel_rfl,trivial⟩ h)

end F76
namespace F80
abbrev E:=En 19
def O (k:Nat):=ob Tryz.f80 (pth k)
abbrev R (i k:Nat):Code:=.region i ⟨O k⟩ false
def ret (P:PT):EP:=retE T0 19 Tryz.f80 P
abbrev k0:Sk:=[(3,.v)]
def B1 (P:PT):Y k0:=fun x3 H=>
  P x3 H
abbrev k1:Sk:=[(0,.i .u64),(3,.v),(4,J)]
def B3 (P:PT) (N2:Y k1):Y k1:=fun x0 x3 x4 H=>
  N2 x0 x3 (i64.wrap (x4+1)) H
def B4 (P:PT) (N2:Y k1):Y k1:=fun x0 x3 x4 H=>
  newK H [(I x4)] 2 (fun b1 H2=>apK T0 2 H2 x3 (slice (some ⟨b1,0,none⟩) 1 (1+1)) (fun v3 H4=>B3 P N2 x0 v3 x4 H4))
def B5 (P:PT) (N2:Y k1):Y k1:=fun x0 x3 x4 H=>
  A 144 [(int .u64 x0),(I x4)] H (fun v1 H2=>asB v1 (fun v3=>pif v3 (B4 P N2 x0 x3 x4 H2) (B3 P N2 x0 x3 x4 H2)))
def B6 (P:PT) (N2:Y k1):Y k1:=fun x0 x3 x4 H=>
  ((0:Int)≤x4)∧(pif ((Int.fdiv x0 (2^(min (Int.toNat x4) 64)):Int) != 0) (B5 P N2 x0 x3 x4 H) (B1 P x3 H))
def L2 (P:PT):Y k1:=fun x0 x3 x4 H=>
  ∃ (I:Y k1) (μ:NTy k1 (AHeap→Nat)),I x0 x3 x4 H∧∀ y0 y3 y4 G,I y0 y3 y4 G→B6 P (fun z0 z3 z4 G'=>I z0 z3 z4 G'∧μ z0 z3 z4 G'<μ y0 y3 y4 G) y0 y3 y4 G
theorem l2 P:LQ k1 (L2 P) (B6 P):=fun ⟨_,_,_,_⟩ _ ⟨I,μ,h0,hI⟩=>⟨apT _ I,apT _ μ,h0,fun ⟨_,_,_,_⟩ _ h=>hI _ _ _ _  h⟩
abbrev k2:Sk:=[(0,.i .u64),(3,.v)]
def B7 (P:PT):Y k2:=fun x0 x3 H=>
  L2 P x0 x3 0 H
abbrev k3:Sk:=[(0,.i .u64)]
def B8 (P:PT):Y k3:=fun x0 H=>
  B7 P x0 (slice none 0 0) H
def B9 (P:PT):Y k3:=fun x0 H=>
  B8 P x0 H
def code:Code:=(.seq (R 0 2) (.seq (R 1 6) (.seq (.seq (R 2 28) (.block 0 (.loop (.seq (.seq (R 3 464) (.cond (.tmp 8) .skip (.exit 0))) (.seq (.block 1 (.seq (R 5 1864) (.cond (.tmp 13) (R 6 3730) .skip))) (R 4 467)))))) (.seq (R 7 30) .ret))))
theorem body:Tryz.f80.body=some code:=by kernel_rfl
theorem main P:Z 19 k3 (B9 P) code (ret P):=
  (r_seq (b (E k3 (B8 P))) (r_seq (b (E k2 (B7 P))) (r_seq (r_seq (b (E k1 (L2 P))) (r_block (rL (l2 P) (fun N2=>(r_seq (r_seq (b (cnd 8 (E k1 (B5 P N2)) (E k0 (B1 P)))) (r_cond rfl r_skip (r_exit (fun _ _ h=>h)))) (r_seq (r_block (r_seq (b (cnd 13 (E k1 (B4 P N2)) (E k1 (B3 P N2)))) (r_cond rfl (b (E k1 (B3 P N2))) r_skip))) (b (E k1 N2)))))))) (r_seq (b (ret P)) r_ret))))
theorem ac (P:PT) (x0:Int) (H:AHeap) (h:B9 P x0 H):A 80 [(int .u64 x0)] H P:=
  r_fn T0_ok (c:=code) (n:=19) Tryz.func80 body (by kernel_rfl) (main P) (En_mk (x0,()) (by kernel_rfl) ⟨by kernel_rfl,trivial⟩ h)

end F80
namespace F89
abbrev E:=En 6
def O (k:Nat):=ob Tryz.f89 (pth k)
abbrev R (i k:Nat):Code:=.region i ⟨O k⟩ false
def ret (P:PT):EP:=retE T0 6 Tryz.f89 P
abbrev k0:Sk:=[(0,.v)]
def B1 (P:PT):Y k0:=fun x0 H=>
  newK H [] 2 (fun b1 H2=>apK T0 2 H2 (slice (some ⟨b1,0,none⟩) 0 (0+1)) x0 (fun v3 H4=>P v3 H4))
def B2 (P:PT):Y k0:=fun x0 H=>
  B1 P x0 H
def code:Code:=(.seq (R 0 2) (.seq (R 1 6) .ret))
theorem body:Tryz.f89.body=some code:=by kernel_rfl
theorem main P:Z 6 k0 (B2 P) code (ret P):=
  (r_seq (b (E k0 (B1 P))) (r_seq (b (ret P)) r_ret))
theorem ac (P:PT) (x0:Value) (H:AHeap) (h:B2 P x0 H):A 89 [x0] H P:=
  r_fn T0_ok (c:=code) (n:=6) Tryz.func89 body (by kernel_rfl) (main P) (En_mk (x0,()) (by kernel_rfl) ⟨by kernel_rfl,trivial⟩ h)

end F89
namespace F91
abbrev E:=En 15
def O (k:Nat):=ob Tryz.f91 (pth k)
abbrev R (i k:Nat):Code:=.region i ⟨O k⟩ false
def ret (P:PT):EP:=retE T0 15 Tryz.f91 P
abbrev k0:Sk:=[(0,J),(1,J),(2,J)]
def B1 (P:PT):Y k0:=fun x0 x1 x2 H=>
  pif (decide ((x0:Int)≥x1)) (P (bool (decide ((x0:Int)≤x2))) H) (P (bool false) H)
def B2 (P:PT):Y k0:=fun x0 x1 x2 H=>
  B1 P x0 x1 x2 H
def code:Code:=(.seq (R 0 2) (.seq (R 1 6) .ret))
theorem body:Tryz.f91.body=some code:=by kernel_rfl
theorem main P:Z 15 k0 (B2 P) code (ret P):=
  (r_seq (b (E k0 (B1 P))) (r_seq (b (ret P)) r_ret))
theorem ac (P:PT) (x0 x1 x2:Int) (H:AHeap) (h:B2 P x0 x1 x2 H):A 91 [(I x0),(I x1),(I x2)] H P:=
  r_fn T0_ok (c:=code) (n:=15) Tryz.func91 body (by kernel_rfl) (main P) (En_mk (x0,x1,x2,()) (by kernel_rfl) ⟨by kernel_rfl,by kernel_rfl,by kernel_rfl,trivial⟩ h)

end F91
namespace F102
abbrev E:=En 11
def O (k:Nat):=ob Tryz.f102 (pth k)
abbrev R (i k:Nat):Code:=.region i ⟨O k⟩ false
def ret (P:PT):EP:=retE T0 11 Tryz.f102 P
abbrev k0:Sk:=[(1,.i .u64),(2,.x)]
def o1:=O 6
def B1 (P:PT):Y k0:=fun x1 x2 H=>
  li H x2 0 (fun v1=>ld1 H x2 1 (fun v2=>li H x2 0 (fun v3=>ld1 H x2 1 (fun v4=>A 108 [(agg ⟨[(I v3),v4]⟩)] H (fun v5 H6=>asI .u64 v5 (fun v7=>(AHeap.le H H6)∧(A 162 [(agg ⟨[(I v1),v2]⟩),(int .u64 (u64.wrap (BitVec.ofInt 64 v7&&&~~~(BitVec.ofInt 64 x1)).toNat))] H6 (fun v8 H9=>P v8 H9))))))))
theorem q1 (P:PT):QD Tryz.prog T0 11 o1 [(0,false),(1,false),(3,false),(2,true),(4,false),(5,false),(6,false)] (ret P) k0 (B1 P):=fun _ _ _ _  => by kernel_rfl
abbrev k1:Sk:=[(0,.g [.i,.v]),(1,.i .u64)]
def B2 (P:PT):Y k1:=fun x0a x0b x1 H=>
  newK H [(I x0a),x0b] 31 (fun b1 H2=>B1 P x1 b1 H2)
def code:Code:=(.seq (R 0 2) (.seq (.region 1 ⟨o1⟩ true) .ret))
theorem body:Tryz.f102.body=some code:=by kernel_rfl
theorem main P:Z 11 k1 (B2 P) code (ret P):=
  (r_seq (b (E k0 (B1 P))) (r_seq (rD T0_ok mixed [(0,false),(1,false),(3,false),(2,true),(4,false),(5,false),(6,false)] (by kernel_rfl) (q1 P)) r_ret))
theorem ac (P:PT) (x0a:Int) (x0b:Value) (x1:Int) (H:AHeap) (h:B2 P x0a x0b x1 H):A 102 [(agg ⟨[(I x0a),x0b]⟩),(int .u64 x1)] H P:=
  r_fn T0_ok (c:=code) (n:=11) Tryz.func102 body (by kernel_rfl) (main P) (En_mk (x0a,x0b,x1,()) (by kernel_rfl) ⟨by kernel_rfl,by kernel_rfl,trivial⟩ h)

end F102
namespace F103
abbrev E:=En 18
def O (k:Nat):=ob Tryz.f103 (pth k)
abbrev R (i k:Nat):Code:=.region i ⟨O k⟩ false
def ret (P:PT):EP:=retE T0 18 Tryz.f103 P
abbrev k0:Sk:=[(3,.i .u64)]
def B1 (P:PT):Y k0:=fun x3 H=>
  P (int .u64 x3) H
abbrev k1:Sk:=[(3,.i .u64),(6,.v),(7,J),(8,J)]
def B3 (P:PT) (N2:Y k1):Y k1:=fun x3 x6 x7 x8 H=>
  N2 x3 x6 x7 (i64.wrap (x8+1)) H
abbrev k2:Sk:=[(3,.i .u64),(5,J),(6,.v),(7,J),(8,J)]
def B4 (P:PT) (N2:Y k1):Y k2:=fun x3 x5 x6 x7 x8 H=>
  ((0:Int)≤x5)∧(B3 P N2 (u64.wrap (BitVec.ofInt 64 x3|||BitVec.ofInt 64 (u64.wrap (1*2^(min (Int.toNat x5) 64)))).toNat) x6 x7 x8 H)
def B5 (P:PT) (N2:Y k1):Y k1:=fun x3 x6 x7 x8 H=>
  idxK x6 x8 1 (fun b1 o2=>li H b1 o2 (fun v3=>B4 P N2 x3 v3 x6 x7 x8 H))
def B6 (P:PT) (N2:Y k1):Y k1:=fun x3 x6 x7 x8 H=>
  pif (decide ((x8:Int)<x7)) (B5 P N2 x3 x6 x7 x8 H) (B1 P x3 H)
def L2 (P:PT):Y k1:=fun x3 x6 x7 x8 H=>
  ∃ (I:Y k1) (μ:NTy k1 (AHeap→Nat)),I x3 x6 x7 x8 H∧∀ y3 y6 y7 y8 G,I y3 y6 y7 y8 G→B6 P (fun z3 z6 z7 z8 G'=>I z3 z6 z7 z8 G'∧μ z3 z6 z7 z8 G'<μ y3 y6 y7 y8 G) y3 y6 y7 y8 G
theorem l2 P:LQ k1 (L2 P) (B6 P):=fun ⟨_,_,_,_,_⟩ _ ⟨I,μ,h0,hI⟩=>⟨apT _ I,apT _ μ,h0,fun ⟨_,_,_,_,_⟩ _ h=>hI _ _ _ _ _  h⟩
abbrev k3:Sk:=[(0,.v),(3,.i .u64)]
def B7 (P:PT):Y k3:=fun x0 x3 H=>
  lenK x0 (fun n1=>L2 P x3 x0 (n1:Int) 0 H)
abbrev k4:Sk:=[(0,.v)]
def B8 (P:PT):Y k4:=fun x0 H=>
  B7 P x0 0 H
def B9 (P:PT):Y k4:=fun x0 H=>
  B8 P x0 H
def code:Code:=(.seq (R 0 2) (.seq (R 1 6) (.seq (.seq (R 2 28) (.block 0 (.loop (.seq (R 3 232) (.seq (.cond (.tmp 9) .skip (.exit 0)) (.seq (.block 1 (.seq (R 4 3736) (R 5 3737))) (R 6 935))))))) (.seq (R 7 30) .ret))))
theorem body:Tryz.f103.body=some code:=by kernel_rfl
theorem main P:Z 18 k4 (B9 P) code (ret P):=
  (r_seq (b (E k4 (B8 P))) (r_seq (b (E k3 (B7 P))) (r_seq (r_seq (b (E k1 (L2 P))) (r_block (rL (l2 P) (fun N2=>(r_seq (b (cnd 9 (E k1 (B5 P N2)) (E k0 (B1 P)))) (r_seq (r_cond rfl r_skip (r_exit (fun _ _ h=>h))) (r_seq (r_block (r_seq (b (E k2 (B4 P N2))) (b (E k1 (B3 P N2))))) (b (E k1 N2))))))))) (r_seq (b (ret P)) r_ret))))
theorem ac (P:PT) (x0:Value) (H:AHeap) (h:B9 P x0 H):A 103 [x0] H P:=
  r_fn T0_ok (c:=code) (n:=18) Tryz.func103 body (by kernel_rfl) (main P) (En_mk (x0,()) (by kernel_rfl) ⟨by kernel_rfl,trivial⟩ h)

end F103
namespace F108
abbrev E:=En 8
def O (k:Nat):=ob Tryz.f108 (pth k)
abbrev R (i k:Nat):Code:=.region i ⟨O k⟩ false
def ret (P:PT):EP:=retE T0 8 Tryz.f108 P
abbrev k0:Sk:=[(1,.x)]
def B1 (P:PT):Y k0:=fun x1 H=>
  ld1 H x1 1 (fun v1=>lenK v1 (fun n2=>((0:Int)≤(n2:Int))∧(P (int .u64 (u64.wrap ((u64.wrap (1*2^(min (Int.toNat (n2:Int)) 64)))-1))) H)))
abbrev k1:Sk:=[(0,.g [.i,.v])]
def B2 (P:PT):Y k1:=fun x0a x0b H=>
  newK H [(I x0a),x0b] 31 (fun b1 H2=>B1 P b1 H2)
def code:Code:=(.seq (R 0 2) (.seq (R 1 6) .ret))
theorem body:Tryz.f108.body=some code:=by kernel_rfl
theorem main P:Z 8 k1 (B2 P) code (ret P):=
  (r_seq (b (E k0 (B1 P))) (r_seq (b (ret P)) r_ret))
theorem ac (P:PT) (x0a:Int) (x0b:Value) (H:AHeap) (h:B2 P x0a x0b H):A 108 [(agg ⟨[(I x0a),x0b]⟩)] H P:=
  r_fn T0_ok (c:=code) (n:=8) Tryz.func108 body (by kernel_rfl) (main P) (En_mk (x0a,x0b,()) (by kernel_rfl) ⟨by kernel_rfl,trivial⟩ h)

end F108
namespace F109
abbrev E:=En 9
def O (k:Nat):=ob Tryz.f109 (pth k)
abbrev R (i k:Nat):Code:=.region i ⟨O k⟩ false
def ret (P:PT):EP:=retE T0 9 Tryz.f109 P
abbrev k0:Sk:=[(5,.x)]
def B1 (P:PT):Y k0:=fun x5 H=>
  ld1 H x5 0 (fun v1=>callV Tryz.prog T0 v1 [(int .u64 0),(int .u64 0)] H (fun v2 H3=>asB v2 (fun v4=>P (bool v4) H3)))
abbrev k1:Sk:=[(2,.x),(3,.x),(5,.x)]
def B2 (P:PT):Y k1:=fun x2 x3 x5 H=>
  stK H x5 0 [(func (.func 166) ⟨[]⟩ ⟨[(pointer (some ⟨x2,0,none⟩)),(pointer (some ⟨x3,0,none⟩)),(pointer (some ⟨x5,0,none⟩))]⟩)] (fun H1=>B1 P x5 H1)
abbrev k2:Sk:=[(2,.x),(3,.x)]
def B3 (P:PT):Y k2:=fun x2 x3 H=>
  newK H [Value.nilFunc] 151 (fun b1 H2=>B2 P x2 x3 b1 H2)
abbrev k3:Sk:=[(0,.g [.i,.v]),(1,.v)]
def B4 (P:PT):Y k3:=fun x0a x0b x1 H=>
  newK H [(I x0a),x0b] 31 (fun b1 H2=>pif (Value.oneCell' x1) (newK H2 [x1] 119 (fun b3 H4=>B3 P b1 b3 H4)) False)
def code:Code:=(.seq (R 0 2) (.seq (R 1 6) (.seq (R 2 14) (.seq (R 3 30) .ret))))
theorem body:Tryz.f109.body=some code:=by kernel_rfl
theorem main P:Z 9 k3 (B4 P) code (ret P):=
  (r_seq (b (E k2 (B3 P))) (r_seq (b (E k1 (B2 P))) (r_seq (b (E k0 (B1 P))) (r_seq (b (ret P)) r_ret))))
theorem ac (P:PT) (x0a:Int) (x0b x1:Value) (H:AHeap) (h:B4 P x0a x0b x1 H):A 109 [(agg ⟨[(I x0a),x0b]⟩),x1] H P:=
  r_fn T0_ok (c:=code) (n:=9) Tryz.func109 body (by kernel_rfl) (main P) (En_mk (x0a,x0b,x1,()) (by kernel_rfl) ⟨by kernel_rfl,by kernel_rfl,trivial⟩ h)

end F109
namespace F112
abbrev E:=En 25
def O (k:Nat):=ob Tryz.f112 (pth k)
abbrev R (i k:Nat):Code:=.region i ⟨O k⟩ false
def ret (P:PT):EP:=retE T0 25 Tryz.f112 P
abbrev k0:Sk:=[(5,.v)]
def B1 (P:PT):Y k0:=fun x5 H=>
  P x5 H
abbrev k1:Sk:=[(1,J),(5,.v),(9,.v),(10,J),(11,J)]
def B3 (P:PT) (N2:Y k1):Y k1:=fun x1 x5 x9 x10 x11 H=>
  N2 x1 x5 x9 x10 (i64.wrap (x11+1)) H
abbrev k2:Sk:=[(1,J),(5,.v),(6,J),(9,.v),(10,J),(11,J)]
def B4 (P:PT) (N2:Y k1):Y k2:=fun x1 x5 x6 x9 x10 x11 H=>
  newK H [(I x6)] 2 (fun b1 H2=>apK T0 2 H2 x5 (slice (some ⟨b1,0,none⟩) 1 (1+1)) (fun v3 H4=>B3 P N2 x1 v3 x9 x10 x11 H4))
abbrev k3:Sk:=[(1,J),(5,.v),(6,J),(7,.x),(9,.v),(10,J),(11,J)]
def B5 (P:PT) (N2:Y k1):Y k3:=fun x1 x5 x6 x7 x9 x10 x11 H=>
  li H x7 0 (fun v1=>li H x7 1 (fun v2=>A 169 [(agg ⟨[(I v1),(I v2)]⟩),(I x1)] H (fun v3 H4=>asB v3 (fun v5=>pif v5 (B4 P N2 x1 x5 x6 x9 x10 x11 H4) (B3 P N2 x1 x5 x9 x10 x11 H4)))))
def B6 (P:PT) (N2:Y k1):Y k1:=fun x1 x5 x9 x10 x11 H=>
  idxK x9 x11 2 (fun b1 o2=>li H b1 o2 (fun v3=>li H b1 (o2+1) (fun v4=>newK H [(I 0),(I 0)] 28 (fun b5 H6=>stK H6 b5 0 [(I v3),(I v4)] (fun H7=>B5 P N2 x1 x5 x11 b5 x9 x10 x11 H7)))))
def B7 (P:PT) (N2:Y k1):Y k1:=fun x1 x5 x9 x10 x11 H=>
  pif (decide ((x11:Int)<x10)) (B6 P N2 x1 x5 x9 x10 x11 H) (B1 P x5 H)
def L2 (P:PT):Y k1:=fun x1 x5 x9 x10 x11 H=>
  ∃ (I:Y k1) (μ:NTy k1 (AHeap→Nat)),I x1 x5 x9 x10 x11 H∧∀ y1 y5 y9 y10 y11 G,I y1 y5 y9 y10 y11 G→B7 P (fun z1 z5 z9 z10 z11 G'=>I z1 z5 z9 z10 z11 G'∧μ z1 z5 z9 z10 z11 G'<μ y1 y5 y9 y10 y11 G) y1 y5 y9 y10 y11 G
theorem l2 P:LQ k1 (L2 P) (B7 P):=fun ⟨_,_,_,_,_,_⟩ _ ⟨I,μ,h0,hI⟩=>⟨apT _ I,apT _ μ,h0,fun ⟨_,_,_,_,_,_⟩ _ h=>hI _ _ _ _ _ _  h⟩
abbrev k4:Sk:=[(1,J),(2,.x),(5,.v)]
def B8 (P:PT):Y k4:=fun x1 x2 x5 H=>
  ld1 H x2 1 (fun v1=>lenK v1 (fun n2=>L2 P x1 x5 v1 (n2:Int) 0 H))
abbrev k5:Sk:=[(1,J),(2,.x)]
def B9 (P:PT):Y k5:=fun x1 x2 H=>
  B8 P x1 x2 (slice none 0 0) H
abbrev k6:Sk:=[(0,.g [.i,.v]),(1,J)]
def B10 (P:PT):Y k6:=fun x0a x0b x1 H=>
  newK H [(I x0a),x0b] 31 (fun b1 H2=>B9 P x1 b1 H2)
def code:Code:=(.seq (R 0 2) (.seq (R 1 6) (.seq (.seq (R 2 28) (.block 0 (.loop (.seq (R 3 232) (.seq (.cond (.tmp 12) .skip (.exit 0)) (.seq (.block 1 (.seq (R 4 3736) (.seq (R 5 7474) (.cond (.tmp 18) (R 6 14950) .skip)))) (R 7 935))))))) (.seq (R 8 30) .ret))))
theorem body:Tryz.f112.body=some code:=by kernel_rfl
theorem main P:Z 25 k6 (B10 P) code (ret P):=
  (r_seq (b (E k5 (B9 P))) (r_seq (b (E k4 (B8 P))) (r_seq (r_seq (b (E k1 (L2 P))) (r_block (rL (l2 P) (fun N2=>(r_seq (b (cnd 12 (E k1 (B6 P N2)) (E k0 (B1 P)))) (r_seq (r_cond rfl r_skip (r_exit (fun _ _ h=>h))) (r_seq (r_block (r_seq (b (E k3 (B5 P N2))) (r_seq (b (cnd 18 (E k2 (B4 P N2)) (E k1 (B3 P N2)))) (r_cond rfl (b (E k1 (B3 P N2))) r_skip)))) (b (E k1 N2))))))))) (r_seq (b (ret P)) r_ret))))
theorem ac (P:PT) (x0a:Int) (x0b:Value) (x1:Int) (H:AHeap) (h:B10 P x0a x0b x1 H):A 112 [(agg ⟨[(I x0a),x0b]⟩),(I x1)] H P:=
  r_fn T0_ok (c:=code) (n:=25) Tryz.func112 body (by kernel_rfl) (main P) (En_mk (x0a,x0b,x1,()) (by kernel_rfl) ⟨by kernel_rfl,by kernel_rfl,trivial⟩ h)

end F112
namespace F114
abbrev E:=En 15
def O (k:Nat):=ob Tryz.f114 (pth k)
abbrev R (i k:Nat):Code:=.region i ⟨O k⟩ false
def ret (P:PT):EP:=retE T0 15 Tryz.f114 P
abbrev k0:Sk:=[(0,J),(1,J),(2,J)]
def B1 (P:PT):Y k0:=fun x0 x1 x2 H=>
  pif (decide ((x1:Int)≤x0)) (P (bool (decide ((x0:Int)≤x2))) H) (P (bool false) H)
def B2 (P:PT):Y k0:=fun x0 x1 x2 H=>
  B1 P x0 x1 x2 H
def code:Code:=(.seq (R 0 2) (.seq (R 1 6) .ret))
theorem body:Tryz.f114.body=some code:=by kernel_rfl
theorem main P:Z 15 k0 (B2 P) code (ret P):=
  (r_seq (b (E k0 (B1 P))) (r_seq (b (ret P)) r_ret))
theorem ac (P:PT) (x0 x1 x2:Int) (H:AHeap) (h:B2 P x0 x1 x2 H):A 114 [(I x0),(I x1),(I x2)] H P:=
  r_fn T0_ok (c:=code) (n:=15) Tryz.func114 body (by kernel_rfl) (main P) (En_mk (x0,x1,x2,()) (by kernel_rfl) ⟨by kernel_rfl,by kernel_rfl,by kernel_rfl,trivial⟩ h)

end F114
namespace F115
abbrev E:=En 5
def O (k:Nat):=ob Tryz.f115 (pth k)
abbrev R (i k:Nat):Code:=.region i ⟨O k⟩ false
def ret (P:PT):EP:=retE T0 5 Tryz.f115 P
abbrev k0:Sk:=[(0,.v)]
def B1 (P:PT):Y k0:=fun x0 H=>
  lenK x0 (fun n1=>P (I (n1:Int)) H)
def B2 (P:PT):Y k0:=fun x0 H=>
  B1 P x0 H
def code:Code:=(.seq (R 0 2) (.seq (R 1 6) .ret))
theorem body:Tryz.f115.body=some code:=by kernel_rfl
theorem main P:Z 5 k0 (B2 P) code (ret P):=
  (r_seq (b (E k0 (B1 P))) (r_seq (b (ret P)) r_ret))
theorem ac (P:PT) (x0:Value) (H:AHeap) (h:B2 P x0 H):A 115 [x0] H P:=
  r_fn T0_ok (c:=code) (n:=5) Tryz.func115 body (by kernel_rfl) (main P) (En_mk (x0,()) (by kernel_rfl) ⟨by kernel_rfl,trivial⟩ h)

end F115
namespace F116
abbrev E:=En 37
def O (k:Nat):=ob Tryz.f116 (pth k)
abbrev R (i k:Nat):Code:=.region i ⟨O k⟩ false
def ret (P:PT):EP:=retE T0 37 Tryz.f116 P
abbrev k0:Sk:=[(4,.x),(5,.x)]
def B1 (P:PT):Y k0:=fun x4 x5 H=>
  li H x5 0 (fun v1=>ld1 H x5 1 (fun v2=>stK H x4 0 [(I v1),v2] (fun H3=>li H3 x4 0 (fun v4=>ld1 H3 x4 1 (fun v5=>P (agg ⟨[(I v4),v5]⟩) H3)))))
def o2:=O 30
def B2 (P:PT):Y k0:=fun x4 x5 H=>
  ld1 H x5 1 (fun v1=>A 171 [v1,(func (.func 65) ⟨[]⟩ ⟨[]⟩)] H (fun v2 H3=>asTup v2 (fun l4=>B1 P x4 x5 H3)))
abbrev k1:Sk:=[(4,.x),(5,.x),(10,.v),(11,J),(12,J)]
def B4 (P:PT) (N3:Y k1):Y k1:=fun x4 x5 x10 x11 x12 H=>
  N3 x4 x5 x10 x11 (i64.wrap (x12+1)) H
abbrev k2:Sk:=[(4,.x),(5,.x),(7,.x),(10,.v),(11,J),(12,J)]
def B5 (P:PT) (N3:Y k1):Y k2:=fun x4 x5 x7 x10 x11 x12 H=>
  ld1 H x5 1 (fun v1=>li H x7 0 (fun v2=>li H x7 1 (fun v3=>li H x7 0 (fun v4=>li H x7 1 (fun v5=>newK H [(I (if v3<v2 then v3 else v2)),(I (if v5>v4 then v5 else v4))] 28 (fun b6 H7=>apK T0 28 H7 v1 (slice (some ⟨b6,0,none⟩) 1 (1+1)) (fun v8 H9=>pif (Value.oneCell' v8) (stK H9 x5 1 [v8] (fun H10=>B4 P N3 x4 x5 x10 x11 x12 H10)) False)))))))
def B6 (P:PT) (N3:Y k1):Y k1:=fun x4 x5 x10 x11 x12 H=>
  idxK x10 x12 2 (fun b1 o2=>li H b1 o2 (fun v3=>li H b1 (o2+1) (fun v4=>newK H [(I 0),(I 0)] 28 (fun b5 H6=>stK H6 b5 0 [(I v3),(I v4)] (fun H7=>B5 P N3 x4 x5 b5 x10 x11 x12 H7)))))
def B7 (P:PT) (N3:Y k1):Y k1:=fun x4 x5 x10 x11 x12 H=>
  pif (decide ((x12:Int)<x11)) (B6 P N3 x4 x5 x10 x11 x12 H) (B2 P x4 x5 H)
def L3 (P:PT):Y k1:=fun x4 x5 x10 x11 x12 H=>
  ∃ (I:Y k1) (μ:NTy k1 (AHeap→Nat)),I x4 x5 x10 x11 x12 H∧∀ y4 y5 y10 y11 y12 G,I y4 y5 y10 y11 y12 G→B7 P (fun z4 z5 z10 z11 z12 G'=>I z4 z5 z10 z11 z12 G'∧μ z4 z5 z10 z11 z12 G'<μ y4 y5 y10 y11 y12 G) y4 y5 y10 y11 y12 G
theorem l3 P:LQ k1 (L3 P) (B7 P):=fun ⟨_,_,_,_,_,_⟩ _ ⟨I,μ,h0,hI⟩=>⟨apT _ I,apT _ μ,h0,fun ⟨_,_,_,_,_,_⟩ _ h=>hI _ _ _ _ _ _  h⟩
abbrev k3:Sk:=[(1,.v),(4,.x),(5,.x)]
def B8 (P:PT):Y k3:=fun x1 x4 x5 H=>
  lenK x1 (fun n1=>L3 P x4 x5 x1 (n1:Int) 0 H)
abbrev k4:Sk:=[(0,J),(1,.v),(4,.x)]
def B9 (P:PT):Y k4:=fun x0 x1 x4 H=>
  newK H [(I 0),(slice none 0 0)] 31 (fun b1 H2=>stK H2 b1 0 [(I x0),(slice none 0 0)] (fun H3=>B8 P x1 x4 b1 H3))
abbrev k5:Sk:=[(0,J),(1,.v)]
def B10 (P:PT):Y k5:=fun x0 x1 H=>
  newK H [(I 0),(slice none 0 0)] 31 (fun b1 H2=>B9 P x0 x1 b1 H2)
def code:Code:=(.seq (R 0 2) (.seq (R 1 6) (.seq (.seq (R 2 28) (.block 0 (.loop (.seq (R 3 232) (.seq (.cond (.tmp 13) .skip (.exit 0)) (.seq (.block 1 (.seq (R 4 3736) (R 5 3737))) (R 6 935))))))) (.seq (R 7 30) (.seq (R 8 62) .ret)))))
theorem body:Tryz.f116.body=some code:=by kernel_rfl
theorem main P:Z 37 k5 (B10 P) code (ret P):=
  (r_seq (b (E k4 (B9 P))) (r_seq (b (E k3 (B8 P))) (r_seq (r_seq (b (E k1 (L3 P))) (r_block (rL (l3 P) (fun N3=>(r_seq (b (cnd 13 (E k1 (B6 P N3)) (E k0 (B2 P)))) (r_seq (r_cond rfl r_skip (r_exit (fun _ _ h=>h))) (r_seq (r_block (r_seq (b (E k2 (B5 P N3))) (b (E k1 (B4 P N3))))) (b (E k1 N3))))))))) (r_seq (b (E k0 (B1 P))) (r_seq (b (ret P)) r_ret)))))
theorem ac (P:PT) (x0:Int) (x1:Value) (H:AHeap) (h:B10 P x0 x1 H):A 116 [(I x0),x1] H P:=
  r_fn T0_ok (c:=code) (n:=37) Tryz.func116 body (by kernel_rfl) (main P) (En_mk (x0,x1,()) (by kernel_rfl) ⟨by kernel_rfl,by kernel_rfl,trivial⟩ h)

end F116
namespace F117
abbrev E:=En 69
def O (k:Nat):=ob Tryz.f117 (pth k)
abbrev R (i k:Nat):Code:=.region i ⟨O k⟩ false
def ret (P:PT):EP:=retE T0 69 Tryz.f117 P
abbrev k0:Sk:=[(3,.v)]
def B1 (P:PT):Y k0:=fun x3 H=>
  P x3 H
abbrev k1:Sk:=[(0,.v),(3,.v),(4,J)]
def B3 (P:PT) (N2:Y k1):Y k1:=fun x0 x3 x4 H=>
  N2 x0 x3 (i64.wrap (x4+1)) H
abbrev k2:Sk:=[(0,.v),(3,.v),(4,J),(5,.x),(6,J)]
def o4:=O 7463
def B4 (P:PT) (N2:Y k1):Y k2:=fun x0 x3 x4 x5 x6 H=>
  li H x5 0 (fun v1=>li H x5 1 (fun v2=>idxK x3 x6 2 (fun b3 o4=>stK H b3 o4 [(I v1),(I v2)] (fun H5=>B3 P N2 x0 x3 x4 H5))))
def o6:=O 238789
def B6 (P:PT) (N2:Y k1) (N5:Y k2):Y k2:=fun x0 x3 x4 x5 x6 H=>
  N5 x0 x3 x4 x5 (i64.wrap (x6-1)) H
def B7 (P:PT) (N2:Y k1) (N5:Y k2):Y k2:=fun x0 x3 x4 x5 x6 H=>
  idxK x3 (i64.wrap (x6-1)) 2 (fun b1 o2=>li H b1 o2 (fun v3=>li H b1 (o2+1) (fun v4=>idxK x3 x6 2 (fun b5 o6=>stK H b5 o6 [(I v3),(I v4)] (fun H7=>B6 P N2 N5 x0 x3 x4 x5 x6 H7)))))
def o8:=O 119392
def B8 (P:PT) (N2:Y k1) (N5:Y k2):Y k2:=fun x0 x3 x4 x5 x6 H=>
  pif (decide ((x6:Int)>0)) (li H x5 0 (fun v1=>li H x5 1 (fun v2=>idxK x3 (i64.wrap (x6-1)) 2 (fun b3 o4=>li H b3 o4 (fun v5=>li H b3 (o4+1) (fun v6=>A 131 [(agg ⟨[(I v1),(I v2)]⟩),(agg ⟨[(I v5),(I v6)]⟩)] H (fun v7 H8=>asB v7 (fun v9=>pif v9 (B7 P N2 N5 x0 x3 x4 x5 x6 H8) (B4 P N2 x0 x3 x4 x5 x6 H8))))))))) (B4 P N2 x0 x3 x4 x5 x6 H)
theorem q8 (P:PT) (N2:Y k1) (N5:Y k2):QD Tryz.prog T0 69 o8 [(0,false),(1,false),(2,false),(3,false),(4,false),(5,false),(6,false),(7,false),(8,false),(9,false),(10,false)] (cnd 53 (En 69 k2 (B7 P N2 N5)) (En 69 k2 (B4 P N2))) k2 (B8 P N2 N5):=fun _ _ _ _ _ _ _  => by kernel_rfl
def L5 (P:PT) (N2:Y k1):Y k2:=fun x0 x3 x4 x5 x6 H=>
  ∃ (I:Y k2) (μ:NTy k2 (AHeap→Nat)),I x0 x3 x4 x5 x6 H∧∀ y0 y3 y4 y5 y6 G,I y0 y3 y4 y5 y6 G→B8 P N2 (fun z0 z3 z4 z5 z6 G'=>I z0 z3 z4 z5 z6 G'∧μ z0 z3 z4 z5 z6 G'<μ y0 y3 y4 y5 y6 G) y0 y3 y4 y5 y6 G
theorem l5 P N2:LQ k2 (L5 P N2) (B8 P N2):=fun ⟨_,_,_,_,_,_⟩ _ ⟨I,μ,h0,hI⟩=>⟨apT _ I,apT _ μ,h0,fun ⟨_,_,_,_,_,_⟩ _ h=>hI _ _ _ _ _ _  h⟩
def B9 (P:PT) (N2:Y k1):Y k2:=fun x0 x3 x4 x5 x6 H=>
  li H x5 0 (fun v1=>li H x5 1 (fun v2=>newK H [(I v1),(I v2)] 28 (fun b3 H4=>apK T0 28 H4 x3 (slice (some ⟨b3,0,none⟩) 1 (1+1)) (fun v5 H6=>L5 P N2 x0 v5 x4 x5 x6 H6))))
def o10:=O 1864
def B10 (P:PT) (N2:Y k1):Y k1:=fun x0 x3 x4 H=>
  idxK x0 x4 2 (fun b1 o2=>li H b1 o2 (fun v3=>idxK x0 x4 2 (fun b4 o5=>li H b4 (o5+1) (fun v6=>idxK x0 x4 2 (fun b7 o8=>li H b7 o8 (fun v9=>idxK x0 x4 2 (fun b10 o11=>li H b10 (o11+1) (fun v12=>lenK x3 (fun n13=>newK H [(I 0),(I 0)] 28 (fun b14 H15=>stK H15 b14 0 [(I (if v6<v3 then v6 else v3)),(I (if v12>v9 then v12 else v9))] (fun H16=>B9 P N2 x0 x3 x4 b14 (n13:Int) H16)))))))))))
theorem q10 (P:PT) (N2:Y k1):QD Tryz.prog T0 69 o10 [(0,false),(1,false),(2,false),(3,false),(4,false),(5,false),(6,false),(7,false),(8,false),(9,false),(10,false),(11,false),(12,false),(13,false),(14,false),(15,false),(16,false),(17,false),(18,false),(19,false),(20,false),(21,false),(22,false),(23,false),(24,false),(25,false),(26,false),(27,false)] (En 69 k2 (B9 P N2)) k1 (B10 P N2):=fun _ _ _ _ _  => by kernel_rfl
def o11:=O 464
def B11 (P:PT) (N2:Y k1):Y k1:=fun x0 x3 x4 H=>
  lenK x0 (fun n1=>pif (decide ((x4:Int)<(n1:Int))) (B10 P N2 x0 x3 x4 H) (B1 P x3 H))
def L2 (P:PT):Y k1:=fun x0 x3 x4 H=>
  ∃ (I:Y k1) (μ:NTy k1 (AHeap→Nat)),I x0 x3 x4 H∧∀ y0 y3 y4 G,I y0 y3 y4 G→B11 P (fun z0 z3 z4 G'=>I z0 z3 z4 G'∧μ z0 z3 z4 G'<μ y0 y3 y4 G) y0 y3 y4 G
theorem l2 P:LQ k1 (L2 P) (B11 P):=fun ⟨_,_,_,_⟩ _ ⟨I,μ,h0,hI⟩=>⟨apT _ I,apT _ μ,h0,fun ⟨_,_,_,_⟩ _ h=>hI _ _ _ _  h⟩
abbrev k3:Sk:=[(0,.v),(3,.v)]
def B12 (P:PT):Y k3:=fun x0 x3 H=>
  L2 P x0 x3 0 H
abbrev k4:Sk:=[(0,.v)]
def B13 (P:PT):Y k4:=fun x0 H=>
  newK H [] 28 (fun b1 H2=>B12 P x0 (slice (some ⟨b1,0,none⟩) 0 (0+1)) H2)
def B14 (P:PT):Y k4:=fun x0 H=>
  B13 P x0 H
def code:Code:=(.seq (R 0 2) (.seq (R 1 6) (.seq (.seq (R 2 28) (.block 0 (.loop (.seq (.seq (R 3 464) (.cond (.tmp 11) .skip (.exit 0))) (.seq (.block 1 (.seq (.region 5 ⟨o10⟩ true) (.seq (R 6 3730) (.seq (.block 2 (.loop (.seq (.seq (.region 7 ⟨o8⟩ true) (.cond (.tmp 53) .skip (.exit 2))) (.block 3 (.seq (R 8 238788) (R 9 238789)))))) (R 10 7463))))) (R 4 467)))))) (.seq (R 11 30) .ret))))
theorem body:Tryz.f117.body=some code:=by kernel_rfl
theorem main P:Z 69 k4 (B14 P) code (ret P):=
  (r_seq (b (E k4 (B13 P))) (r_seq (b (E k3 (B12 P))) (r_seq (r_seq (b (E k1 (L2 P))) (r_block (rL (l2 P) (fun N2=>(r_seq (r_seq (b (cnd 11 (E k1 (B10 P N2)) (E k0 (B1 P)))) (r_cond rfl r_skip (r_exit (fun _ _ h=>h)))) (r_seq (r_block (r_seq (rD T0_ok mixed [(0,false),(1,false),(2,false),(3,false),(4,false),(5,false),(6,false),(7,false),(8,false),(9,false),(10,false),(11,false),(12,false),(13,false),(14,false),(15,false),(16,false),(17,false),(18,false),(19,false),(20,false),(21,false),(22,false),(23,false),(24,false),(25,false),(26,false),(27,false)] (by kernel_rfl) (q10 P N2)) (r_seq (b (E k2 (L5 P N2))) (r_seq (r_block (rL (l5 P N2) (fun N5=>(r_seq (r_seq (rD T0_ok mixed [(0,false),(1,false),(2,false),(3,false),(4,false),(5,false),(6,false),(7,false),(8,false),(9,false),(10,false)] (by kernel_rfl) (q8 P N2 N5)) (r_cond rfl r_skip (r_exit (fun _ _ h=>h)))) (r_block (r_seq (b (E k2 (B6 P N2 N5))) (b (E k2 N5)))))))) (b (E k1 (B3 P N2))))))) (b (E k1 N2)))))))) (r_seq (b (ret P)) r_ret))))
theorem ac (P:PT) (x0:Value) (H:AHeap) (h:B14 P x0 H):A 117 [x0] H P:=
  r_fn T0_ok (c:=code) (n:=69) Tryz.func117 body (by kernel_rfl) (main P) (En_mk (x0,()) (by kernel_rfl) ⟨by kernel_rfl,trivial⟩ h)

end F117
namespace F118
abbrev E:=En 10
def O (k:Nat):=ob Tryz.f118 (pth k)
abbrev R (i k:Nat):Code:=.region i ⟨O k⟩ false
def ret (P:PT):EP:=retE T0 10 Tryz.f118 P
abbrev k0:Sk:=[(0,J)]
def B1 (P:PT):Y k0:=fun x0 H=>
  A 114 [(I x0),(I 2),(I 20)] H (fun v1 H2=>asB v1 (fun v3=>pif v3 (P (bool ((Int.tmod x0 2:Int)==0)) H2) (P (bool false) H2)))
def B2 (P:PT):Y k0:=fun x0 H=>
  B1 P x0 H
def code:Code:=(.seq (R 0 2) (.seq (R 1 6) .ret))
theorem body:Tryz.f118.body=some code:=by kernel_rfl
theorem main P:Z 10 k0 (B2 P) code (ret P):=
  (r_seq (b (E k0 (B1 P))) (r_seq (b (ret P)) r_ret))
theorem ac (P:PT) (x0:Int) (H:AHeap) (h:B2 P x0 H):A 118 [(I x0)] H P:=
  r_fn T0_ok (c:=code) (n:=10) Tryz.func118 body (by kernel_rfl) (main P) (En_mk (x0,()) (by kernel_rfl) ⟨by kernel_rfl,trivial⟩ h)

end F118
namespace F119
abbrev E:=En 23
def O (k:Nat):=ob Tryz.f119 (pth k)
abbrev R (i k:Nat):Code:=.region i ⟨O k⟩ false
def ret (P:PT):EP:=retE T0 23 Tryz.f119 P
abbrev k0:Sk:=[(1,.v),(2,.x)]
def B1 (P:PT):Y k0:=fun x1 x2 H=>
  li H x2 0 (fun v1=>asP x1 (fun b2 o3=>li H b2 o3 (fun v4=>A 114 [(I v1),(I 0),(I (i64.wrap (v4-1)))] H (fun v5 H6=>asB v5 (fun v7=>pif v7 (li H6 x2 1 (fun v8=>asP x1 (fun b9 o10=>li H6 b9 o10 (fun v11=>A 114 [(I v8),(I 0),(I (i64.wrap (v11-1)))] H6 (fun v12 H13=>asB v12 (fun v14=>pif v14 (li H13 x2 0 (fun v15=>li H13 x2 1 (fun v16=>P (bool ((v15:Int) != v16)) H13))) (P (bool false) H13))))))) (P (bool false) H6))))))
abbrev k1:Sk:=[(0,.g [.i,.i]),(1,.v)]
def B2 (P:PT):Y k1:=fun x0a x0b x1 H=>
  newK H [(I x0a),(I x0b)] 28 (fun b1 H2=>B1 P x1 b1 H2)
def code:Code:=(.seq (R 0 2) (.seq (R 1 6) .ret))
theorem body:Tryz.f119.body=some code:=by kernel_rfl
theorem main P:Z 23 k1 (B2 P) code (ret P):=
  (r_seq (b (E k0 (B1 P))) (r_seq (b (ret P)) r_ret))
theorem ac (P:PT) (x0a x0b:Int) (x1:Value) (H:AHeap) (h:B2 P x0a x0b x1 H):A 119 [(agg ⟨[(I x0a),(I x0b)]⟩),x1] H P:=
  r_fn T0_ok (c:=code) (n:=23) Tryz.func119 body (by kernel_rfl) (main P) (En_mk (x0a,x0b,x1,()) (by kernel_rfl) ⟨by kernel_rfl,by kernel_rfl,trivial⟩ h)

end F119
namespace F120
abbrev E:=En 9
def O (k:Nat):=ob Tryz.f120 (pth k)
abbrev R (i k:Nat):Code:=.region i ⟨O k⟩ false
def ret (P:PT):EP:=retE T0 9 Tryz.f120 P
abbrev k0:Sk:=[(0,.v),(1,.v)]
def B1 (P:PT):Y k0:=fun x0 x1 H=>
  A 172 [x0,x1] H (fun v1 H2=>asI .i64 v1 (fun v3=>P (bool (decide ((v3:Int)≥0))) H2))
def B2 (P:PT):Y k0:=fun x0 x1 H=>
  B1 P x0 x1 H
def code:Code:=(.seq (R 0 2) (.seq (R 1 6) .ret))
theorem body:Tryz.f120.body=some code:=by kernel_rfl
theorem main P:Z 9 k0 (B2 P) code (ret P):=
  (r_seq (b (E k0 (B1 P))) (r_seq (b (ret P)) r_ret))
theorem ac (P:PT) (x0 x1:Value) (H:AHeap) (h:B2 P x0 x1 H):A 120 [x0,x1] H P:=
  r_fn T0_ok (c:=code) (n:=9) Tryz.func120 body (by kernel_rfl) (main P) (En_mk (x0,x1,()) (by kernel_rfl) ⟨by kernel_rfl,by kernel_rfl,trivial⟩ h)

end F120
namespace F121
abbrev E:=En 8
def O (k:Nat):=ob Tryz.f121 (pth k)
abbrev R (i k:Nat):Code:=.region i ⟨O k⟩ false
def ret (P:PT):EP:=retE T0 8 Tryz.f121 P
abbrev k0:Sk:=[(1,.v),(2,.x)]
def B1 (P:PT):Y k0:=fun x1 x2 H=>
  asP x1 (fun b1 o2=>ld1 H b1 o2 (fun v3=>li H x2 0 (fun v4=>li H x2 1 (fun v5=>callV Tryz.prog T0 v3 [(agg ⟨[(I v4),(I v5)]⟩)] H (fun v6 H7=>asB v6 (fun v8=>P (bool (!v8)) H7))))))
abbrev k1:Sk:=[(0,.g [.i,.i]),(1,.v)]
def o2:=O 2
def B2 (P:PT):Y k1:=fun x0a x0b x1 H=>
  newK H [(I x0a),(I x0b)] 28 (fun b1 H2=>B1 P x1 b1 H2)
def code:Code:=(.seq (R 0 2) (.seq (R 1 6) .ret))
theorem body:Tryz.f121.body=some code:=by kernel_rfl
theorem main P:Z 8 k1 (B2 P) code (ret P):=
  (r_seq (b (E k0 (B1 P))) (r_seq (b (ret P)) r_ret))
theorem ac (P:PT) (x0a x0b:Int) (x1:Value) (H:AHeap) (h:B2 P x0a x0b x1 H):A 121 [(agg ⟨[(I x0a),(I x0b)]⟩),x1] H P:=
  r_fn T0_ok (c:=code) (n:=8) Tryz.func121 body (by kernel_rfl) (main P) (En_mk (x0a,x0b,x1,()) (by kernel_rfl) ⟨by kernel_rfl,by kernel_rfl,trivial⟩ h)

end F121
namespace F122
abbrev E:=En 36
def O (k:Nat):=ob Tryz.f122 (pth k)
abbrev R (i k:Nat):Code:=.region i ⟨O k⟩ false
def ret (P:PT):EP:=retE T0 36 Tryz.f122 P
abbrev k0:Sk:=[]
def B1 (P:PT):Y k0:=fun H=>
  P (I 0) H
def o2:=O 116
def B2 (P:PT):Y k0:=fun H=>
  P (I (-1)) H
abbrev k1:Sk:=[(0,.v),(1,.v)]
def B3 (P:PT):Y k1:=fun x0 x1 H=>
  lenK x0 (fun n1=>lenK x1 (fun n2=>pif (decide (((n1:Int):Int)<(n2:Int))) (B2 P H) (B1 P H)))
abbrev k2:Sk:=[(0,.v),(1,.v),(9,.v),(10,J),(11,J)]
def B5 (P:PT) (N4:Y k2):Y k2:=fun x0 x1 x9 x10 x11 H=>
  N4 x0 x1 x9 x10 (i64.wrap (x11+1)) H
abbrev k3:Sk:=[(8,J)]
def B6 (P:PT) (N4:Y k2):Y k3:=fun x8 H=>
  P (I x8) H
abbrev k4:Sk:=[(0,.v),(1,.v),(8,J),(9,.v),(10,J),(11,J)]
def B7 (P:PT) (N4:Y k2):Y k4:=fun x0 x1 x8 x9 x10 x11 H=>
  pif ((x8:Int) != 0) (B6 P N4 x8 H) (B5 P N4 x0 x1 x9 x10 x11 H)
abbrev k5:Sk:=[(0,.v),(1,.v),(6,J),(7,J),(9,.v),(10,J),(11,J)]
def B8 (P:PT) (N4:Y k2):Y k5:=fun x0 x1 x6 x7 x9 x10 x11 H=>
  A 173 [(I x6),(I x7)] H (fun v1 H2=>asI .i64 v1 (fun v3=>B7 P N4 x0 x1 v3 x9 x10 x11 H2))
abbrev k6:Sk:=[(0,.v),(1,.v),(5,J),(6,J),(9,.v),(10,J),(11,J)]
def B9 (P:PT) (N4:Y k2):Y k6:=fun x0 x1 x5 x6 x9 x10 x11 H=>
  idxK x1 x5 1 (fun b1 o2=>li H b1 o2 (fun v3=>B8 P N4 x0 x1 x6 v3 x9 x10 x11 H))
def B10 (P:PT) (N4:Y k2):Y k0:=fun H=>
  P (I 1) H
def B11 (P:PT) (N4:Y k2):Y k6:=fun x0 x1 x5 x6 x9 x10 x11 H=>
  lenK x1 (fun n1=>pif (decide ((x5:Int)≥(n1:Int))) (B10 P N4 H) (B9 P N4 x0 x1 x5 x6 x9 x10 x11 H))
def B12 (P:PT) (N4:Y k2):Y k2:=fun x0 x1 x9 x10 x11 H=>
  idxK x9 x11 1 (fun b1 o2=>li H b1 o2 (fun v3=>B11 P N4 x0 x1 x11 v3 x9 x10 x11 H))
def B13 (P:PT) (N4:Y k2):Y k2:=fun x0 x1 x9 x10 x11 H=>
  pif (decide ((x11:Int)<x10)) (B12 P N4 x0 x1 x9 x10 x11 H) (B3 P x0 x1 H)
def L4 (P:PT):Y k2:=fun x0 x1 x9 x10 x11 H=>
  ∃ (I:Y k2) (μ:NTy k2 (AHeap→Nat)),I x0 x1 x9 x10 x11 H∧∀ y0 y1 y9 y10 y11 G,I y0 y1 y9 y10 y11 G→B13 P (fun z0 z1 z9 z10 z11 G'=>I z0 z1 z9 z10 z11 G'∧μ z0 z1 z9 z10 z11 G'<μ y0 y1 y9 y10 y11 G) y0 y1 y9 y10 y11 G
theorem l4 P:LQ k2 (L4 P) (B13 P):=fun ⟨_,_,_,_,_,_⟩ _ ⟨I,μ,h0,hI⟩=>⟨apT _ I,apT _ μ,h0,fun ⟨_,_,_,_,_,_⟩ _ h=>hI _ _ _ _ _ _  h⟩
def B14 (P:PT):Y k1:=fun x0 x1 H=>
  lenK x0 (fun n1=>L4 P x0 x1 x0 (n1:Int) 0 H)
def B15 (P:PT):Y k1:=fun x0 x1 H=>
  B14 P x0 x1 H
def code:Code:=(.seq (R 0 2) (.seq (.seq (R 1 12) (.block 0 (.loop (.seq (R 2 104) (.seq (.cond (.tmp 12) .skip (.exit 0)) (.seq (.block 1 (.seq (R 3 1688) (.seq (.seq (R 4 6756) (.cond (.tmp 19) (.seq (R 5 27028) .ret) .skip)) (.seq (R 6 6758) (.seq (R 7 13518) (.seq (R 8 27038) (.cond (.tmp 28) (.seq (R 9 108156) .ret) .skip))))))) (R 10 423))))))) (.seq (.seq (R 11 28) (.cond (.tmp 35) (.seq (R 12 116) .ret) .skip)) (.seq (R 13 30) .ret))))
theorem body:Tryz.f122.body=some code:=by kernel_rfl
theorem main P:Z 36 k1 (B15 P) code (ret P):=
  (r_seq (b (E k1 (B14 P))) (r_seq (r_seq (b (E k2 (L4 P))) (r_block (rL (l4 P) (fun N4=>(r_seq (b (cnd 12 (E k2 (B12 P N4)) (E k1 (B3 P)))) (r_seq (r_cond rfl r_skip (r_exit (fun _ _ h=>h))) (r_seq (r_block (r_seq (b (E k6 (B11 P N4))) (r_seq (r_seq (b (cnd 19 (E k0 (B10 P N4)) (E k6 (B9 P N4)))) (r_cond rfl (r_seq (b (ret P)) r_ret) r_skip)) (r_seq (b (E k5 (B8 P N4))) (r_seq (b (E k4 (B7 P N4))) (r_seq (b (cnd 28 (E k3 (B6 P N4)) (E k2 (B5 P N4)))) (r_cond rfl (r_seq (b (ret P)) r_ret) r_skip))))))) (b (E k2 N4))))))))) (r_seq (r_seq (b (cnd 35 (E k0 (B2 P)) (E k0 (B1 P)))) (r_cond rfl (r_seq (b (ret P)) r_ret) r_skip)) (r_seq (b (ret P)) r_ret))))
theorem ac (P:PT) (x0 x1:Value) (H:AHeap) (h:B15 P x0 x1 H):A 122 [x0,x1] H P:=
  r_fn T0_ok (c:=code) (n:=36) Tryz.func122 body (by kernel_rfl) (main P) (En_mk (x0,x1,()) (by kernel_rfl) ⟨by kernel_rfl,by kernel_rfl,trivial⟩ h)

end F122
namespace F123
abbrev E:=En 9
def O (k:Nat):=ob Tryz.f123 (pth k)
abbrev R (i k:Nat):Code:=.region i ⟨O k⟩ false
def ret (P:PT):EP:=retE T0 9 Tryz.f123 P
abbrev k0:Sk:=[(0,.v),(3,.x)]
def B1 (P:PT):Y k0:=fun x0 x3 H=>
  A 174 [x0,(func (.func 175) ⟨[]⟩ ⟨[(pointer (some ⟨x3,0,none⟩))]⟩)] H (fun v1 H2=>asB v1 (fun v3=>P (bool (!v3)) H2))
abbrev k1:Sk:=[(0,.v),(1,.v)]
def B2 (P:PT):Y k1:=fun x0 x1 H=>
  pif (Value.oneCell' x1) (newK H [x1] 128 (fun b1 H2=>B1 P x0 b1 H2)) False
def code:Code:=(.seq (R 0 2) (.seq (R 1 6) .ret))
theorem body:Tryz.f123.body=some code:=by kernel_rfl
theorem main P:Z 9 k1 (B2 P) code (ret P):=
  (r_seq (b (E k0 (B1 P))) (r_seq (b (ret P)) r_ret))
theorem ac (P:PT) (x0 x1:Value) (H:AHeap) (h:B2 P x0 x1 H):A 123 [x0,x1] H P:=
  r_fn T0_ok (c:=code) (n:=9) Tryz.func123 body (by kernel_rfl) (main P) (En_mk (x0,x1,()) (by kernel_rfl) ⟨by kernel_rfl,by kernel_rfl,trivial⟩ h)

end F123
namespace F124
abbrev E:=En 5
def O (k:Nat):=ob Tryz.f124 (pth k)
abbrev R (i k:Nat):Code:=.region i ⟨O k⟩ false
def ret (P:PT):EP:=retE T0 5 Tryz.f124 P
abbrev k0:Sk:=[(0,J)]
def B1 (P:PT):Y k0:=fun x0 H=>
  P (bool ((x0:Int)==3)) H
def B2 (P:PT):Y k0:=fun x0 H=>
  B1 P x0 H
def code:Code:=(.seq (R 0 2) (.seq (R 1 6) .ret))
theorem body:Tryz.f124.body=some code:=by kernel_rfl
theorem main P:Z 5 k0 (B2 P) code (ret P):=
  (r_seq (b (E k0 (B1 P))) (r_seq (b (ret P)) r_ret))
theorem ac (P:PT) (x0:Int) (H:AHeap) (h:B2 P x0 H):A 124 [(I x0)] H P:=
  r_fn T0_ok (c:=code) (n:=5) Tryz.func124 body (by kernel_rfl) (main P) (En_mk (x0,()) (by kernel_rfl) ⟨by kernel_rfl,trivial⟩ h)

end F124
end
end Go.Proofs
