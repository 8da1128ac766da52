import Derived.Test.YtngacbdogjmpaaaGreatDoorX32S
set_option linter.unusedVariables false
set_option maxRecDepth 100000
namespace Go.Proofs
open Go.Abs
open Value IntKind
noncomputable section
namespace F178
abbrev E:=En 38
def O (k:Nat):=ob Tryz.f178 (pth k)
abbrev R (i k:Nat):Code:=.region i ⟨O k⟩ false
def ret (P:PT):EP:=retE T0 38 Tryz.f178 P
abbrev k0:Sk:=[(0,.v),(2,J),(22,.g [.i,.i]),(23,J)]
def B2 (P:PT) (N1:Y k0):Y k0:=fun x0 x2 x22a x22b x23 H=>
  N1 x0 x2 x22a x22b (i64.wrap (x23+1)) H
abbrev k1:Sk:=[(0,.v),(2,J),(7,J),(22,.g [.i,.i]),(23,J)]
def o3:=O 921
def B3 (P:PT) (N1:Y k0):Y k1:=fun x0 x2 x7 x22a x22b x23 H=>
  nilK x0 (fun v1=>asP v1 (fun b2 o3=>ld1 H b2 (o3+4) (fun v4=>idxK v4 x7 1 (fun b5 o6=>ldI .u64 H b5 o6 (fun v7=>((0:Int)≤x2)∧(idxK v4 x7 1 (fun b8 o9=>stK H b8 o9 [(int .u64 (u64.wrap (BitVec.ofInt 64 v7|||BitVec.ofInt 64 (u64.wrap (1*2^(min (Int.toNat x2) 64)))).toNat))] (fun H10=>B2 P N1 x0 x2 x22a x22b x23 H10))))))))
theorem q3 (P:PT) (N1:Y k0):QD Tryz.prog T0 38 o3 [(0,false),(1,false),(2,false),(3,false),(4,false),(5,false),(6,false),(7,false),(8,false),(9,false),(10,false),(11,false)] (En 38 k0 (B2 P N1)) k1 (B3 P N1):=fun _ _ _ _ _ _ _ _  => by kernel_rfl
def B4 (P:PT) (N1:Y k0):Y k0:=fun x0 x2 x22a x22b x23 H=>
  bndK x23 2 (atK [(I x22a),(I x22b)] (Int.toNat x23*1) (fun v1=>asI .i64 v1 (fun v2=>B3 P N1 x0 x2 v2 x22a x22b x23 H)))
def B5 (P:PT) (N1:Y k0):Y k0:=fun x0 x2 x22a x22b x23 H=>
  pif (decide ((x23:Int)<2)) (B4 P N1 x0 x2 x22a x22b x23 H) (P (tuple ⟨[]⟩) H)
def L1 (P:PT):Y k0:=fun x0 x2 x22a x22b x23 H=>
  ∃ (I:Y k0) (μ:NTy k0 (AHeap→Nat)),I x0 x2 x22a x22b x23 H∧∀ y0 y2 y22a y22b y23 G,I y0 y2 y22a y22b y23 G→B5 P (fun z0 z2 z22a z22b z23 G'=>I z0 z2 z22a z22b z23 G'∧μ z0 z2 z22a z22b z23 G'<μ y0 y2 y22a y22b y23 G) y0 y2 y22a y22b y23 G
theorem l1 P:LQ k0 (L1 P) (B5 P):=fun ⟨_,_,_,_,_,_⟩ _ ⟨I,μ,h0,hI⟩=>⟨apT _ I,apT _ μ,h0,fun ⟨_,_,_,_,_,_⟩ _ h=>hI _ _ _ _ _ _  h⟩
abbrev k2:Sk:=[(0,.v),(1,J),(2,J)]
def o6:=O 6
def B6 (P:PT):Y k2:=fun x0 x1 x2 H=>
  nilK x0 (fun v1=>asP v1 (fun b2 o3=>ld1 H b2 (o3+1) (fun v4=>idxK v4 x1 2 (fun b5 o6=>li H b5 o6 (fun v7=>li H b5 (o6+1) (fun v8=>L1 P x0 x2 v7 v8 0 H))))))
def B7 (P:PT):Y k2:=fun x0 x1 x2 H=>
  nilK x0 (fun v1=>asP v1 (fun b2 o3=>ld1 H b2 (o3+3) (fun v4=>idxK v4 x1 1 (fun b5 o6=>stK H b5 o6 [(I x2)] (fun H7=>B6 P x0 x1 x2 H7)))))
def code:Code:=(.seq (R 0 2) (.seq (R 1 6) (.block 0 (.loop (.seq (R 2 56) (.seq (.cond (.tmp 24) .skip (.exit 0)) (.seq (.block 1 (.seq (R 3 920) (.region 4 ⟨o3⟩ true))) (R 5 231))))))))
theorem body:Tryz.f178.body=some code:=by kernel_rfl
theorem main P:Z 38 k2 (B7 P) code (ret P):=
  (r_seq (b (E k2 (B6 P))) (r_seq (b (E k0 (L1 P))) (r_block (rL (l1 P) (fun N1=>(r_seq (b (cnd 24 (E k0 (B4 P N1)) (ret P))) (r_seq (r_cond rfl r_skip (r_exit (fun _ _ h=>h))) (r_seq (r_block (r_seq (b (E k1 (B3 P N1))) (rD T0_ok mixed [(0,false),(1,false),(2,false),(3,false),(4,false),(5,false),(6,false),(7,false),(8,false),(9,false),(10,false),(11,false)] (by kernel_rfl) (q3 P N1)))) (b (E k0 N1))))))))))
theorem ac (P:PT) (x0:Value) (x1 x2:Int) (H:AHeap) (h:B7 P x0 x1 x2 H):A 178 [x0,(I x1),(I x2)] H P:=
  r_fn T0_ok (c:=code) (n:=38) Tryz.func178 body (by kernel_rfl) (main P) (En_mk (x0,x1,x2,()) (by kernel_rfl) ⟨by kernel_rfl,by kernel_rfl,by kernel_rfl,trivial⟩ h)

end F178
namespace F179
abbrev E:=En 100
def O (k:Nat):=ob Tryz.f179 (pth k)
abbrev R (i k:Nat):Code:=.region i ⟨O k⟩ false
def ret (P:PT):EP:=retE T0 100 Tryz.f179 P
abbrev k0:Sk:=[]
def B1 (P:PT):Y k0:=fun H=>
  P (bool false) H
abbrev k1:Sk:=[(0,.v),(1,J),(5,J),(6,.x),(65,J)]
def o3:=O 8103
def B3 (P:PT) (N2:Y k1):Y k1:=fun x0 x1 x5 x6 x65 H=>
  N2 x0 x1 x5 x6 (i64.wrap (x65+1)) H
def B4 (P:PT) (N2:Y k1):Y k0:=fun H=>
  P (bool true) H
abbrev k2:Sk:=[(0,.v),(1,J),(5,J),(6,.x),(8,.b),(65,J)]
def B5 (P:PT) (N2:Y k1):Y k2:=fun x0 x1 x5 x6 x8 x65 H=>
  pif x8 (B4 P N2 H) (B3 P N2 x0 x1 x5 x6 x65 H)
def o6:=O 518558
def B6 (P:PT) (N2:Y k1):Y k2:=fun x0 x1 x5 x6 x8 x65 H=>
  A 208 [x0,(I x5)] H (fun v1 H2=>asTup v1 (fun l3=>B5 P N2 x0 x1 x5 x6 x8 x65 H2))
def o7:=O 259278
def B7 (P:PT) (N2:Y k1):Y k1:=fun x0 x1 x5 x6 x65 H=>
  A 179 [x0,(I (i64.wrap (x1+1)))] H (fun v1 H2=>asB v1 (fun v3=>B6 P N2 x0 x1 x5 x6 v3 x65 H2))
abbrev k3:Sk:=[(0,.v),(1,J),(5,J),(6,.x),(7,J),(65,J)]
def o8:=O 129638
def B8 (P:PT) (N2:Y k1):Y k3:=fun x0 x1 x5 x6 x7 x65 H=>
  A 178 [x0,(I x5),(I x7)] H (fun v1 H2=>asTup v1 (fun l3=>B7 P N2 x0 x1 x5 x6 x65 H2))
def o9:=O 129636
def B9 (P:PT) (N2:Y k1):Y k3:=fun x0 x1 x5 x6 x7 x65 H=>
  nilK x0 (fun v1=>asP v1 (fun b2 o3=>ld1 H b2 (o3+4) (fun v4=>li H x6 0 (fun v5=>idxK v4 v5 1 (fun b6 o7=>ldI .u64 H b6 o7 (fun v8=>nilK x0 (fun v9=>asP v9 (fun b10 o11=>ld1 H b10 (o11+4) (fun v12=>li H x6 1 (fun v13=>idxK v12 v13 1 (fun b14 o15=>ldI .u64 H b14 o15 (fun v16=>A 144 [(int .u64 (u64.wrap (BitVec.ofInt 64 v8|||BitVec.ofInt 64 v16).toNat)),(I x7)] H (fun v17 H18=>asB v17 (fun v19=>pif v19 (B3 P N2 x0 x1 x5 x6 x65 H18) (B8 P N2 x0 x1 x5 x6 x7 x65 H18)))))))))))))))
theorem q9 (P:PT) (N2:Y k1):QD Tryz.prog T0 100 o9 [(0,false),(1,false),(2,false),(3,false),(4,false),(5,false),(6,false),(7,false),(8,false),(9,false),(10,false),(11,false),(12,false),(13,false),(14,false),(15,false),(16,false),(17,false),(18,false)] (cnd 86 (En 100 k1 (B3 P N2)) (En 100 k3 (B8 P N2))) k3 (B9 P N2):=fun _ _ _ _ _ _ _ _  => by kernel_rfl
def B10 (P:PT) (N2:Y k1):Y k1:=fun x0 x1 x5 x6 x65 H=>
  B9 P N2 x0 x1 x5 x6 x65 x65 H
def o11:=O 2024
def B11 (P:PT) (N2:Y k1):Y k1:=fun x0 x1 x5 x6 x65 H=>
  pif (decide ((x65:Int)<3)) (B10 P N2 x0 x1 x5 x6 x65 H) (B1 P H)
def L2 (P:PT):Y k1:=fun x0 x1 x5 x6 x65 H=>
  ∃ (I:Y k1) (μ:NTy k1 (AHeap→Nat)),I x0 x1 x5 x6 x65 H∧∀ y0 y1 y5 y6 y65 G,I y0 y1 y5 y6 y65 G→B11 P (fun z0 z1 z5 z6 z65 G'=>I z0 z1 z5 z6 z65 G'∧μ z0 z1 z5 z6 z65 G'<μ y0 y1 y5 y6 y65 G) y0 y1 y5 y6 y65 G
theorem l2 P:LQ k1 (L2 P) (B11 P):=fun ⟨_,_,_,_,_,_⟩ _ ⟨I,μ,h0,hI⟩=>⟨apT _ I,apT _ μ,h0,fun ⟨_,_,_,_,_,_⟩ _ h=>hI _ _ _ _ _ _  h⟩
abbrev k4:Sk:=[(0,.v),(1,J),(5,J),(6,.x)]
def o12:=O 252
def B12 (P:PT):Y k4:=fun x0 x1 x5 x6 H=>
  L2 P x0 x1 x5 x6 0 H
abbrev k5:Sk:=[(0,.v),(1,J),(5,J)]
def B13 (P:PT):Y k5:=fun x0 x1 x5 H=>
  nilK x0 (fun v1=>asP v1 (fun b2 o3=>ld1 H b2 (o3+1) (fun v4=>idxK v4 x5 2 (fun b5 o6=>li H b5 o6 (fun v7=>li H b5 (o6+1) (fun v8=>newK H [(I 0),(I 0)] 28 (fun b9 H10=>stK H10 b9 0 [(I v7),(I v8)] (fun H11=>B12 P x0 x1 x5 b9 H11))))))))
abbrev k6:Sk:=[(0,.v),(1,J)]
def B14 (P:PT):Y k6:=fun x0 x1 H=>
  nilK x0 (fun v1=>asP v1 (fun b2 o3=>ld1 H b2 (o3+2) (fun v4=>idxK v4 x1 1 (fun b5 o6=>li H b5 o6 (fun v7=>B13 P x0 x1 v7 H)))))
abbrev k7:Sk:=[(0,.v)]
def o15:=O 116
def B15 (P:PT):Y k7:=fun x0 H=>
  nilK x0 (fun v1=>asP v1 (fun b2 o3=>ld1 H b2 (o3+5) (fun v4=>nilK x0 (fun v5=>asP v5 (fun b6 o7=>ld1 H b6 (o7+3) (fun v8=>callV Tryz.prog T0 v4 [v8] H (fun v9 H10=>asB v9 (fun v11=>P (bool v11) H10))))))))
theorem q15 (P:PT):QD Tryz.prog T0 100 o15 [(0,false),(1,false),(2,false),(3,false),(4,false),(5,false),(6,false),(7,false),(8,false),(9,false)] (ret P) k7 (B15 P):=fun _ _ _  => by kernel_rfl
def B16 (P:PT):Y k6:=fun x0 x1 H=>
  nilK x0 (fun v1=>asP v1 (fun b2 o3=>ld1 H b2 (o3+2) (fun v4=>lenK v4 (fun n5=>pif ((x1:Int)==(n5:Int)) (B15 P x0 H) (B14 P x0 x1 H)))))
def o18:=O 98
def B18 (P:PT) (N17:Y k6):Y k6:=fun x0 x1 H=>
  N17 x0 (i64.wrap (x1+1)) H
def o19:=O 96
def B19 (P:PT) (N17:Y k6):Y k6:=fun x0 x1 H=>
  nilK x0 (fun v1=>asP v1 (fun b2 o3=>ld1 H b2 (o3+2) (fun v4=>lenK v4 (fun n5=>pif (decide ((x1:Int)<(n5:Int))) (nilK x0 (fun v6=>asP v6 (fun b7 o8=>ld1 H b7 (o8+3) (fun v9=>nilK x0 (fun v10=>asP v10 (fun b11 o12=>ld1 H b11 (o12+2) (fun v13=>idxK v13 x1 1 (fun b14 o15=>li H b14 o15 (fun v16=>idxK v9 v16 1 (fun b17 o18=>li H b17 o18 (fun v19=>pif ((v19:Int) != (-1)) (B18 P N17 x0 x1 H) (B16 P x0 x1 H)))))))))))) (B16 P x0 x1 H)))))
theorem q19 (P:PT) (N17:Y k6):QD Tryz.prog T0 100 o19 [(0,false),(1,false),(2,false),(3,false),(4,false),(5,false),(6,false),(7,false),(8,false),(9,false),(10,false),(11,false),(12,false),(13,false),(14,false),(15,false),(16,false),(17,false),(18,false),(19,false),(20,false),(21,false),(22,false)] (cnd 31 (En 100 k6 (B18 P N17)) (En 100 k6 (B16 P))) k6 (B19 P N17):=fun _ _ _ _  => by kernel_rfl
def L17 (P:PT):Y k6:=fun x0 x1 H=>
  ∃ (I:Y k6) (μ:NTy k6 (AHeap→Nat)),I x0 x1 H∧∀ y0 y1 G,I y0 y1 G→B19 P (fun z0 z1 G'=>I z0 z1 G'∧μ z0 z1 G'<μ y0 y1 G) y0 y1 G
theorem l17 P:LQ k6 (L17 P) (B19 P):=fun ⟨_,_,_⟩ _ ⟨I,μ,h0,hI⟩=>⟨apT _ I,apT _ μ,h0,fun ⟨_,_,_⟩ _ h=>hI _ _ _  h⟩
def B20 (P:PT):Y k6:=fun x0 x1 H=>
  L17 P x0 x1 H
def code:Code:=(.seq (R 0 2) (.seq (.block 0 (.loop (.seq (.seq (.region 1 ⟨o19⟩ true) (.cond (.tmp 31) .skip (.exit 0))) (.block 1 (R 2 98))))) (.seq (.seq (R 3 28) (.cond (.tmp 40) (.seq (.region 4 ⟨o15⟩ true) .ret) .skip)) (.seq (R 5 30) (.seq (R 6 62) (.seq (.seq (R 7 252) (.block 2 (.loop (.seq (R 8 2024) (.seq (.cond (.tmp 66) .skip (.exit 2)) (.seq (.block 3 (.seq (R 9 32408) (.seq (.seq (.region 10 ⟨o9⟩ true) (.cond (.tmp 86) (.exit 3) .skip)) (.seq (R 11 129638) (.seq (R 12 259278) (.seq (R 13 518558) (.seq (R 14 1037118) (.cond (.tmp 98) (.seq (R 15 4148476) .ret) .skip)))))))) (R 16 8103))))))) (.seq (R 17 254) .ret)))))))
theorem body:Tryz.f179.body=some code:=by kernel_rfl
theorem main P:Z 100 k6 (B20 P) code (ret P):=
  (r_seq (b (E k6 (L17 P))) (r_seq (r_block (rL (l17 P) (fun N17=>(r_seq (r_seq (rD T0_ok mixed [(0,false),(1,false),(2,false),(3,false),(4,false),(5,false),(6,false),(7,false),(8,false),(9,false),(10,false),(11,false),(12,false),(13,false),(14,false),(15,false),(16,false),(17,false),(18,false),(19,false),(20,false),(21,false),(22,false)] (by kernel_rfl) (q19 P N17)) (r_cond rfl r_skip (r_exit (fun _ _ h=>h)))) (r_block (b (E k6 N17))))))) (r_seq (r_seq (b (cnd 40 (E k7 (B15 P)) (E k6 (B14 P)))) (r_cond rfl (r_seq (rD T0_ok mixed [(0,false),(1,false),(2,false),(3,false),(4,false),(5,false),(6,false),(7,false),(8,false),(9,false)] (by kernel_rfl) (q15 P)) r_ret) r_skip)) (r_seq (b (E k5 (B13 P))) (r_seq (b (E k4 (B12 P))) (r_seq (r_seq (b (E k1 (L2 P))) (r_block (rL (l2 P) (fun N2=>(r_seq (b (cnd 66 (E k1 (B10 P N2)) (E k0 (B1 P)))) (r_seq (r_cond rfl r_skip (r_exit (fun _ _ h=>h))) (r_seq (r_block (r_seq (b (E k3 (B9 P N2))) (r_seq (r_seq (rD T0_ok mixed [(0,false),(1,false),(2,false),(3,false),(4,false),(5,false),(6,false),(7,false),(8,false),(9,false),(10,false),(11,false),(12,false),(13,false),(14,false),(15,false),(16,false),(17,false),(18,false)] (by kernel_rfl) (q9 P N2)) (r_cond rfl (r_exit (fun _ _ h=>h)) r_skip)) (r_seq (b (E k1 (B7 P N2))) (r_seq (b (E k2 (B6 P N2))) (r_seq (b (E k2 (B5 P N2))) (r_seq (b (cnd 98 (E k0 (B4 P N2)) (E k1 (B3 P N2)))) (r_cond rfl (r_seq (b (ret P)) r_ret) r_skip)))))))) (b (E k1 N2))))))))) (r_seq (b (ret P)) r_ret)))))))
theorem ac (P:PT) (x0:Value) (x1:Int) (H:AHeap) (h:B20 P x0 x1 H):A 179 [x0,(I x1)] H P:=
  r_fn T0_ok (c:=code) (n:=100) Tryz.func179 body (by kernel_rfl) (main P) (En_mk (x0,x1,()) (by kernel_rfl) ⟨by kernel_rfl,by kernel_rfl,trivial⟩ h)

end F179
namespace F180
abbrev E:=En 34
def O (k:Nat):=ob Tryz.f180 (pth k)
abbrev R (i k:Nat):Code:=.region i ⟨O k⟩ false
def ret (P:PT):EP:=retE T0 34 Tryz.f180 P
abbrev k0:Sk:=[]
def B1 (P:PT):Y k0:=fun H=>
  P (bool false) H
abbrev k1:Sk:=[(0,.i .u64),(2,J),(4,.v),(5,.v),(10,J)]
def B3 (P:PT) (N2:Y k1):Y k1:=fun x0 x2 x4 x5 x10 H=>
  N2 x0 x2 x4 x5 (i64.wrap (x10+1)) H
def B4 (P:PT) (N2:Y k1):Y k0:=fun H=>
  P (bool true) H
def o5:=O 1864
def B5 (P:PT) (N2:Y k1):Y k1:=fun x0 x2 x4 x5 x10 H=>
  asP x5 (fun b1 o2=>ld1 H b1 o2 (fun v3=>((0:Int)≤x10)∧(callV Tryz.prog T0 v3 [(int .u64 (u64.wrap (BitVec.ofInt 64 x0|||BitVec.ofInt 64 (u64.wrap (1*2^(min (Int.toNat x10) 64)))).toNat)),(I (i64.wrap (x10+1))),(I (i64.wrap (x2-1)))] H (fun v4 H5=>asB v4 (fun v6=>pif v6 (B4 P N2 H5) (B3 P N2 x0 x2 x4 x5 x10 H5))))))
theorem q5 (P:PT) (N2:Y k1):QD Tryz.prog T0 34 o5 [(0,false),(1,false),(2,false),(3,false),(4,false),(5,false),(6,false),(7,false),(8,false),(9,false)] (cnd 33 (En 34 k0 (B4 P N2)) (En 34 k1 (B3 P N2))) k1 (B5 P N2):=fun _ _ _ _ _ _ _  => by kernel_rfl
def B6 (P:PT) (N2:Y k1):Y k1:=fun x0 x2 x4 x5 x10 H=>
  asP x4 (fun b1 o2=>li H b1 o2 (fun v3=>pif (decide ((i64.wrap (x10+x2):Int)≤v3)) (B5 P N2 x0 x2 x4 x5 x10 H) (B1 P H)))
def L2 (P:PT):Y k1:=fun x0 x2 x4 x5 x10 H=>
  ∃ (I:Y k1) (μ:NTy k1 (AHeap→Nat)),I x0 x2 x4 x5 x10 H∧∀ y0 y2 y4 y5 y10 G,I y0 y2 y4 y5 y10 G→B6 P (fun z0 z2 z4 z5 z10 G'=>I z0 z2 z4 z5 z10 G'∧μ z0 z2 z4 z5 z10 G'<μ y0 y2 y4 y5 y10 G) y0 y2 y4 y5 y10 G
theorem l2 P:LQ k1 (L2 P) (B6 P):=fun ⟨_,_,_,_,_,_⟩ _ ⟨I,μ,h0,hI⟩=>⟨apT _ I,apT _ μ,h0,fun ⟨_,_,_,_,_,_⟩ _ h=>hI _ _ _ _ _ _  h⟩
abbrev k2:Sk:=[(0,.i .u64),(1,J),(2,J),(4,.v),(5,.v)]
def B7 (P:PT):Y k2:=fun x0 x1 x2 x4 x5 H=>
  L2 P x0 x2 x4 x5 x1 H
abbrev k3:Sk:=[(0,.i .u64),(3,.v)]
def B8 (P:PT):Y k3:=fun x0 x3 H=>
  asP x3 (fun b1 o2=>ld1 H b1 o2 (fun v3=>callV Tryz.prog T0 v3 [(int .u64 x0)] H (fun v4 H5=>asB v4 (fun v6=>P (bool v6) H5))))
abbrev k4:Sk:=[(0,.i .u64),(1,J),(2,J),(3,.v),(4,.v),(5,.v)]
def B9 (P:PT):Y k4:=fun x0 x1 x2 x3 x4 x5 H=>
  pif ((x2:Int)==0) (B8 P x0 x3 H) (B7 P x0 x1 x2 x4 x5 H)
def B10 (P:PT):Y k4:=fun x0 x1 x2 x3 x4 x5 H=>
  B9 P x0 x1 x2 x3 x4 x5 H
def code:Code:=(.seq (R 0 2) (.seq (.seq (R 1 12) (.cond (.tmp 12) (.seq (R 2 52) .ret) .skip)) (.seq (.seq (R 3 28) (.block 0 (.loop (.seq (.seq (R 4 464) (.cond (.tmp 21) .skip (.exit 0))) (.seq (.block 1 (.seq (.region 6 ⟨o5⟩ true) (.cond (.tmp 33) (.seq (R 7 7460) .ret) .skip))) (R 5 467)))))) (.seq (R 8 30) .ret))))
theorem body:Tryz.f180.body=some code:=by kernel_rfl
theorem main P:Z 34 k4 (B10 P) code (ret P):=
  (r_seq (b (E k4 (B9 P))) (r_seq (r_seq (b (cnd 12 (E k3 (B8 P)) (E k2 (B7 P)))) (r_cond rfl (r_seq (b (ret P)) r_ret) r_skip)) (r_seq (r_seq (b (E k1 (L2 P))) (r_block (rL (l2 P) (fun N2=>(r_seq (r_seq (b (cnd 21 (E k1 (B5 P N2)) (E k0 (B1 P)))) (r_cond rfl r_skip (r_exit (fun _ _ h=>h)))) (r_seq (r_block (r_seq (rD T0_ok mixed [(0,false),(1,false),(2,false),(3,false),(4,false),(5,false),(6,false),(7,false),(8,false),(9,false)] (by kernel_rfl) (q5 P N2)) (r_cond rfl (r_seq (b (ret P)) r_ret) r_skip))) (b (E k1 N2)))))))) (r_seq (b (ret P)) r_ret))))
theorem ac (P:PT) (x0 x1 x2:Int) (x3 x4 x5:Value) (H:AHeap) (h:B10 P x0 x1 x2 x3 x4 x5 H):A 180 [(int .u64 x0),(I x1),(I x2),x3,x4,x5] H P:=
  r_fn T0_ok (c:=code) (n:=34) Tryz.func180 body (by kernel_rfl) (main P) (En_mk (x0,x1,x2,x3,x4,x5,()) (by kernel_rfl) ⟨by kernel_rfl,by kernel_rfl,by kernel_rfl,by kernel_rfl,by kernel_rfl,by kernel_rfl,trivial⟩ h)

end F180
namespace F181
abbrev E:=En 3
def O (k:Nat):=ob Tryz.f181 (pth k)
abbrev R (i k:Nat):Code:=.region i ⟨O k⟩ false
def ret (P:PT):EP:=retE T0 3 Tryz.f181 P
abbrev k0:Sk:=[]
def B1 (P:PT):Y k0:=fun H=>
  P (bool true) H
def B2 (P:PT):Y k0:=fun H=>
  B1 P H
def code:Code:=(.seq (R 0 2) (.seq (R 1 6) .ret))
theorem body:Tryz.f181.body=some code:=by kernel_rfl
theorem main P:Z 3 k0 (B2 P) code (ret P):=
  (r_seq (b (E k0 (B1 P))) (r_seq (b (ret P)) r_ret))
theorem ac (P:PT) (x0:Value) (H:AHeap) (h:B2 P H):A 181 [x0] H P:=
  r_fn T0_ok (c:=code) (n:=3) Tryz.func181 body (by kernel_rfl) (main P) (En_mk (()) (by kernel_rfl) trivial h)

end F181
namespace F182
abbrev E:=En 228
def O (k:Nat):=ob Tryz.f182 (pth k)
abbrev R (i k:Nat):Code:=.region i ⟨O k⟩ false
def ret (P:PT):EP:=retE T0 228 Tryz.f182 P
abbrev k0:Sk:=[(2,.x)]
def B1 (P:PT):Y k0:=fun x2 H=>
  stK H x2 0 [(I 0),(slice none 0 0)] (fun H1=>li H1 x2 0 (fun v2=>ld1 H1 x2 1 (fun v3=>P (tuple ⟨[(agg ⟨[(I v2),v3]⟩),(bool false)]⟩) H1)))
def B2 (P:PT):Y k0:=fun x2 H=>
  newK H [(I 0),(I 1),(I 0),(I 1),(I 0),(I 1)] 28 (fun b1 H2=>A 60 [(I 2),(slice (some ⟨b1,0,none⟩) 3 (3+1))] H2 (fun v3 H4=>agg2 v3 (fun v5 v6=>asI .i64 v5 (fun v7=>stK H4 x2 0 [(I v7),v6] (fun H9=>li H9 x2 0 (fun v10=>ld1 H9 x2 1 (fun v11=>P (tuple ⟨[(agg ⟨[(I v10),v11]⟩),(bool true)]⟩) H9)))))))
def o3:=O 1884
def B3 (P:PT):Y k0:=fun x2 H=>
  newK H [(I 0),(I 1),(I 0),(I 2),(I 0),(I 3),(I 1),(I 2),(I 1),(I 3),(I 2),(I 3)] 28 (fun b1 H2=>A 60 [(I 4),(slice (some ⟨b1,0,none⟩) 6 (6+1))] H2 (fun v3 H4=>agg2 v3 (fun v5 v6=>asI .i64 v5 (fun v7=>stK H4 x2 0 [(I v7),v6] (fun H9=>li H9 x2 0 (fun v10=>ld1 H9 x2 1 (fun v11=>P (tuple ⟨[(agg ⟨[(I v10),v11]⟩),(bool true)]⟩) H9)))))))
abbrev k1:Sk:=[(2,.x),(4,.v)]
def B4 (P:PT):Y k1:=fun x2 x4 H=>
  A 60 [(I 6),x4] H (fun v1 H2=>agg2 v1 (fun v3 v4=>asI .i64 v3 (fun v5=>stK H2 x2 0 [(I v5),v4] (fun H7=>li H7 x2 0 (fun v8=>ld1 H7 x2 1 (fun v9=>P (tuple ⟨[(agg ⟨[(I v8),v9]⟩),(bool true)]⟩) H7))))))
abbrev k2:Sk:=[(2,.x),(4,.v),(5,J)]
def B6 (P:PT) (N5:Y k2):Y k2:=fun x2 x4 x5 H=>
  N5 x2 x4 (i64.wrap (x5+1)) H
def B7 (P:PT) (N5:Y k2):Y k2:=fun x2 x4 x5 H=>
  newK H [(I x5),(I 3),(I x5),(I 4),(I x5),(I 5)] 28 (fun b1 H2=>apK T0 28 H2 x4 (slice (some ⟨b1,0,none⟩) 3 (3+1)) (fun v3 H4=>B6 P N5 x2 v3 x5 H4))
def B8 (P:PT) (N5:Y k2):Y k2:=fun x2 x4 x5 H=>
  pif (decide ((x5:Int)<3)) (B7 P N5 x2 x4 x5 H) (B4 P x2 x4 H)
def L5 (P:PT):Y k2:=fun x2 x4 x5 H=>
  ∃ (I:Y k2) (μ:NTy k2 (AHeap→Nat)),I x2 x4 x5 H∧∀ y2 y4 y5 G,I y2 y4 y5 G→B8 P (fun z2 z4 z5 G'=>I z2 z4 z5 G'∧μ z2 z4 z5 G'<μ y2 y4 y5 G) y2 y4 y5 G
theorem l5 P:LQ k2 (L5 P) (B8 P):=fun ⟨_,_,_,_⟩ _ ⟨I,μ,h0,hI⟩=>⟨apT _ I,apT _ μ,h0,fun ⟨_,_,_,_⟩ _ h=>hI _ _ _ _  h⟩
def B9 (P:PT):Y k1:=fun x2 x4 H=>
  L5 P x2 x4 0 H
def B10 (P:PT):Y k1:=fun x2 x4 H=>
  newK H [(I 0),(I 3),(I 1),(I 4),(I 2),(I 5)] 28 (fun b1 H2=>apK T0 28 H2 x4 (slice (some ⟨b1,0,none⟩) 3 (3+1)) (fun v3 H4=>A 60 [(I 6),v3] H4 (fun v5 H6=>agg2 v5 (fun v7 v8=>asI .i64 v7 (fun v9=>stK H6 x2 0 [(I v9),v8] (fun H11=>li H11 x2 0 (fun v12=>ld1 H11 x2 1 (fun v13=>P (tuple ⟨[(agg ⟨[(I v12),v13]⟩),(bool true)]⟩) H11))))))))
def B11 (P:PT):Y k1:=fun x2 x4 H=>
  newK H [(I 0),(I 1),(I 2)] 2 (fun b1 H2=>A 209 [x4,(slice (some ⟨b1,0,none⟩) 3 (3+1))] H2 (fun v3 H4=>newK H4 [(I 3),(I 4),(I 5)] 2 (fun b6 H7=>A 209 [v3,(slice (some ⟨b6,0,none⟩) 3 (3+1))] H7 (fun v8 H9=>B10 P x2 v8 H9))))
def B12 (P:PT):Y k1:=fun x2 x4 H=>
  A 60 [(I 8),x4] H (fun v1 H2=>agg2 v1 (fun v3 v4=>asI .i64 v3 (fun v5=>stK H2 x2 0 [(I v5),v4] (fun H7=>li H7 x2 0 (fun v8=>ld1 H7 x2 1 (fun v9=>P (tuple ⟨[(agg ⟨[(I v8),v9]⟩),(bool true)]⟩) H7))))))
abbrev k3:Sk:=[(2,.x),(4,.v),(6,J)]
def B14 (P:PT) (N13:Y k3):Y k3:=fun x2 x4 x6 H=>
  N13 x2 x4 (i64.wrap (x6+1)) H
abbrev k4:Sk:=[(2,.x),(4,.v),(6,J),(7,J)]
def B16 (P:PT) (N13:Y k3) (N15:Y k4):Y k4:=fun x2 x4 x6 x7 H=>
  N15 x2 x4 x6 (i64.wrap (2*x7)) H
def B17 (P:PT) (N13:Y k3) (N15:Y k4):Y k4:=fun x2 x4 x6 x7 H=>
  newK H [(I x6),(I (i64.wrap (x6+x7)))] 28 (fun b1 H2=>apK T0 28 H2 x4 (slice (some ⟨b1,0,none⟩) 1 (1+1)) (fun v3 H4=>B16 P N13 N15 x2 v3 x6 x7 H4))
def B18 (P:PT) (N13:Y k3) (N15:Y k4):Y k4:=fun x2 x4 x6 x7 H=>
  pif ((i64.wrap (BitVec.ofInt 64 x6&&&BitVec.ofInt 64 x7).toNat:Int)==0) (B17 P N13 N15 x2 x4 x6 x7 H) (B16 P N13 N15 x2 x4 x6 x7 H)
def B19 (P:PT) (N13:Y k3) (N15:Y k4):Y k4:=fun x2 x4 x6 x7 H=>
  pif (decide ((x7:Int)<8)) (B18 P N13 N15 x2 x4 x6 x7 H) (B14 P N13 x2 x4 x6 H)
def L15 (P:PT) (N13:Y k3):Y k4:=fun x2 x4 x6 x7 H=>
  ∃ (I:Y k4) (μ:NTy k4 (AHeap→Nat)),I x2 x4 x6 x7 H∧∀ y2 y4 y6 y7 G,I y2 y4 y6 y7 G→B19 P N13 (fun z2 z4 z6 z7 G'=>I z2 z4 z6 z7 G'∧μ z2 z4 z6 z7 G'<μ y2 y4 y6 y7 G) y2 y4 y6 y7 G
theorem l15 P N13:LQ k4 (L15 P N13) (B19 P N13):=fun ⟨_,_,_,_,_⟩ _ ⟨I,μ,h0,hI⟩=>⟨apT _ I,apT _ μ,h0,fun ⟨_,_,_,_,_⟩ _ h=>hI _ _ _ _ _  h⟩
def B20 (P:PT) (N13:Y k3):Y k3:=fun x2 x4 x6 H=>
  L15 P N13 x2 x4 x6 1 H
def B21 (P:PT) (N13:Y k3):Y k3:=fun x2 x4 x6 H=>
  pif (decide ((x6:Int)<8)) (B20 P N13 x2 x4 x6 H) (B12 P x2 x4 H)
def L13 (P:PT):Y k3:=fun x2 x4 x6 H=>
  ∃ (I:Y k3) (μ:NTy k3 (AHeap→Nat)),I x2 x4 x6 H∧∀ y2 y4 y6 G,I y2 y4 y6 G→B21 P (fun z2 z4 z6 G'=>I z2 z4 z6 G'∧μ z2 z4 z6 G'<μ y2 y4 y6 G) y2 y4 y6 G
theorem l13 P:LQ k3 (L13 P) (B21 P):=fun ⟨_,_,_,_⟩ _ ⟨I,μ,h0,hI⟩=>⟨apT _ I,apT _ μ,h0,fun ⟨_,_,_,_⟩ _ h=>hI _ _ _ _  h⟩
def B22 (P:PT):Y k1:=fun x2 x4 H=>
  L13 P x2 x4 0 H
def B23 (P:PT):Y k1:=fun x2 x4 H=>
  A 60 [(I 10),x4] H (fun v1 H2=>agg2 v1 (fun v3 v4=>asI .i64 v3 (fun v5=>stK H2 x2 0 [(I v5),v4] (fun H7=>li H7 x2 0 (fun v8=>ld1 H7 x2 1 (fun v9=>P (tuple ⟨[(agg ⟨[(I v8),v9]⟩),(bool true)]⟩) H7))))))
abbrev k5:Sk:=[(2,.x),(4,.v),(8,J)]
def B25 (P:PT) (N24:Y k5):Y k5:=fun x2 x4 x8 H=>
  N24 x2 x4 (i64.wrap (x8+1)) H
def B26 (P:PT) (N24:Y k5):Y k5:=fun x2 x4 x8 H=>
  newK H [(I x8),(I (Int.tmod (i64.wrap (x8+1)) 5)),(I x8),(I (i64.wrap (x8+5))),(I (i64.wrap (x8+5))),(I (i64.wrap ((Int.tmod (i64.wrap (x8+2)) 5)+5)))] 28 (fun b1 H2=>apK T0 28 H2 x4 (slice (some ⟨b1,0,none⟩) 3 (3+1)) (fun v3 H4=>B25 P N24 x2 v3 x8 H4))
def B27 (P:PT) (N24:Y k5):Y k5:=fun x2 x4 x8 H=>
  pif (decide ((x8:Int)<5)) (B26 P N24 x2 x4 x8 H) (B23 P x2 x4 H)
def L24 (P:PT):Y k5:=fun x2 x4 x8 H=>
  ∃ (I:Y k5) (μ:NTy k5 (AHeap→Nat)),I x2 x4 x8 H∧∀ y2 y4 y8 G,I y2 y4 y8 G→B27 P (fun z2 z4 z8 G'=>I z2 z4 z8 G'∧μ z2 z4 z8 G'<μ y2 y4 y8 G) y2 y4 y8 G
theorem l24 P:LQ k5 (L24 P) (B27 P):=fun ⟨_,_,_,_⟩ _ ⟨I,μ,h0,hI⟩=>⟨apT _ I,apT _ μ,h0,fun ⟨_,_,_,_⟩ _ h=>hI _ _ _ _  h⟩
def B28 (P:PT):Y k1:=fun x2 x4 H=>
  L24 P x2 x4 0 H
def B29 (P:PT):Y k1:=fun x2 x4 H=>
  newK H [(I 0),(I 1),(I 10),(I 4),(I 11),(I 5)] 28 (fun b1 H2=>apK T0 28 H2 x4 (slice (some ⟨b1,0,none⟩) 3 (3+1)) (fun v3 H4=>A 60 [(I 12),v3] H4 (fun v5 H6=>agg2 v5 (fun v7 v8=>asI .i64 v7 (fun v9=>stK H6 x2 0 [(I v9),v8] (fun H11=>li H11 x2 0 (fun v12=>ld1 H11 x2 1 (fun v13=>P (tuple ⟨[(agg ⟨[(I v12),v13]⟩),(bool true)]⟩) H11))))))))
def B30 (P:PT):Y k1:=fun x2 x4 H=>
  newK H [(I 0),(I 10),(I 11)] 2 (fun b1 H2=>A 209 [x4,(slice (some ⟨b1,0,none⟩) 3 (3+1))] H2 (fun v3 H4=>B29 P x2 v3 H4))
abbrev k6:Sk:=[(2,.x),(4,.v),(9,.x),(11,J)]
def B32 (P:PT) (N31:Y k6):Y k6:=fun x2 x4 x9 x11 H=>
  N31 x2 x4 x9 (i64.wrap (x11+1)) H
def B33 (P:PT) (N31:Y k6):Y k6:=fun x2 x4 x9 x11 H=>
  ld1 H x9 1 (fun v1=>idxK v1 x11 2 (fun b2 o3=>li H b2 o3 (fun v4=>li H b2 (o3+1) (fun v5=>newK H [(I v4),(I v5)] 28 (fun b6 H7=>apK T0 28 H7 x4 (slice (some ⟨b6,0,none⟩) 1 (1+1)) (fun v8 H9=>B32 P N31 x2 v8 x9 x11 H9))))))
def B34 (P:PT) (N31:Y k6):Y k6:=fun x2 x4 x9 x11 H=>
  ld1 H x9 1 (fun v1=>idxK v1 x11 2 (fun b2 o3=>li H b2 o3 (fun v4=>pif ((v4:Int) != 0) (B33 P N31 x2 x4 x9 x11 H) (B32 P N31 x2 x4 x9 x11 H))))
def B35 (P:PT) (N31:Y k6):Y k6:=fun x2 x4 x9 x11 H=>
  ld1 H x9 1 (fun v1=>lenK v1 (fun n2=>pif (decide ((x11:Int)<(n2:Int))) (B34 P N31 x2 x4 x9 x11 H) (B30 P x2 x4 H)))
def L31 (P:PT):Y k6:=fun x2 x4 x9 x11 H=>
  ∃ (I:Y k6) (μ:NTy k6 (AHeap→Nat)),I x2 x4 x9 x11 H∧∀ y2 y4 y9 y11 G,I y2 y4 y9 y11 G→B35 P (fun z2 z4 z9 z11 G'=>I z2 z4 z9 z11 G'∧μ z2 z4 z9 z11 G'<μ y2 y4 y9 y11 G) y2 y4 y9 y11 G
theorem l31 P:LQ k6 (L31 P) (B35 P):=fun ⟨_,_,_,_,_⟩ _ ⟨I,μ,h0,hI⟩=>⟨apT _ I,apT _ μ,h0,fun ⟨_,_,_,_,_⟩ _ h=>hI _ _ _ _ _  h⟩
abbrev k7:Sk:=[(2,.x),(4,.v),(9,.x)]
def B36 (P:PT):Y k7:=fun x2 x4 x9 H=>
  L31 P x2 x4 x9 0 H
def B37 (P:PT):Y k1:=fun x2 x4 H=>
  A 182 [(string (⟨#[112,101,116,101,114,115,101,110]⟩))] H (fun v1 H2=>tup2 v1 (fun v3 v4=>agg2 v3 (fun v5 v6=>asI .i64 v5 (fun v7=>asB v4 (fun v9=>newK H2 [(I 0),(slice none 0 0)] 31 (fun b10 H11=>stK H11 b10 0 [(I v7),v6] (fun H12=>B36 P x2 x4 b10 H12)))))))
def B38 (P:PT):Y k1:=fun x2 x4 H=>
  newK H [(I 10),(I 11),(I 12),(I 13),(I 14),(I 15),(I 16),(I 17),(I 18),(I 19)] 2 (fun b1 H2=>A 209 [x4,(slice (some ⟨b1,0,none⟩) 10 (10+1))] H2 (fun v3 H4=>A 60 [(I 20),v3] H4 (fun v6 H7=>agg2 v6 (fun v8 v9=>asI .i64 v8 (fun v10=>stK H7 x2 0 [(I v10),v9] (fun H12=>li H12 x2 0 (fun v13=>ld1 H12 x2 1 (fun v14=>P (tuple ⟨[(agg ⟨[(I v13),v14]⟩),(bool true)]⟩) H12))))))))
def B39 (P:PT):Y k1:=fun x2 x4 H=>
  newK H [(I 5),(I 6),(I 7),(I 8),(I 9)] 2 (fun b1 H2=>A 209 [x4,(slice (some ⟨b1,0,none⟩) 5 (5+1))] H2 (fun v3 H4=>B38 P x2 v3 H4))
abbrev k8:Sk:=[(2,.x),(4,.v),(12,J)]
def B41 (P:PT) (N40:Y k8):Y k8:=fun x2 x4 x12 H=>
  N40 x2 x4 (i64.wrap (x12+1)) H
def B42 (P:PT) (N40:Y k8):Y k8:=fun x2 x4 x12 H=>
  newK H [(I x12),(I (i64.wrap (x12+5))),(I x12),(I (i64.wrap (x12+10))),(I x12),(I (i64.wrap (x12+15)))] 28 (fun b1 H2=>apK T0 28 H2 x4 (slice (some ⟨b1,0,none⟩) 3 (3+1)) (fun v3 H4=>B41 P N40 x2 v3 x12 H4))
def B43 (P:PT) (N40:Y k8):Y k8:=fun x2 x4 x12 H=>
  pif (decide ((x12:Int)<5)) (B42 P N40 x2 x4 x12 H) (B39 P x2 x4 H)
def L40 (P:PT):Y k8:=fun x2 x4 x12 H=>
  ∃ (I:Y k8) (μ:NTy k8 (AHeap→Nat)),I x2 x4 x12 H∧∀ y2 y4 y12 G,I y2 y4 y12 G→B43 P (fun z2 z4 z12 G'=>I z2 z4 z12 G'∧μ z2 z4 z12 G'<μ y2 y4 y12 G) y2 y4 y12 G
theorem l40 P:LQ k8 (L40 P) (B43 P):=fun ⟨_,_,_,_⟩ _ ⟨I,μ,h0,hI⟩=>⟨apT _ I,apT _ μ,h0,fun ⟨_,_,_,_⟩ _ h=>hI _ _ _ _  h⟩
def B44 (P:PT):Y k1:=fun x2 x4 H=>
  L40 P x2 x4 0 H
def B45 (P:PT):Y k1:=fun x2 x4 H=>
  newK H [(I 4),(I 9)] 28 (fun b1 H2=>apK T0 28 H2 x4 (slice (some ⟨b1,0,none⟩) 1 (1+1)) (fun v3 H4=>A 60 [(I 10),v3] H4 (fun v5 H6=>agg2 v5 (fun v7 v8=>asI .i64 v7 (fun v9=>stK H6 x2 0 [(I v9),v8] (fun H11=>li H11 x2 0 (fun v12=>ld1 H11 x2 1 (fun v13=>P (tuple ⟨[(agg ⟨[(I v12),v13]⟩),(bool true)]⟩) H11))))))))
abbrev k9:Sk:=[(2,.x),(4,.v),(13,J)]
def B47 (P:PT) (N46:Y k9):Y k9:=fun x2 x4 x13 H=>
  N46 x2 x4 (i64.wrap (x13+5)) H
def B48 (P:PT) (N46:Y k9):Y k9:=fun x2 x4 x13 H=>
  newK H [(I x13),(I (i64.wrap (x13+2))),(I x13),(I (i64.wrap (x13+3))),(I (i64.wrap (x13+1))),(I (i64.wrap (x13+2))),(I (i64.wrap (x13+1))),(I (i64.wrap (x13+3))),(I (i64.wrap (x13+2))),(I (i64.wrap (x13+3))),(I x13),(I (i64.wrap (x13+4))),(I (i64.wrap (x13+1))),(I (i64.wrap (x13+4)))] 28 (fun b1 H2=>apK T0 28 H2 x4 (slice (some ⟨b1,0,none⟩) 7 (7+1)) (fun v3 H4=>B47 P N46 x2 v3 x13 H4))
def B49 (P:PT) (N46:Y k9):Y k9:=fun x2 x4 x13 H=>
  pif (decide ((x13:Int)≤5)) (B48 P N46 x2 x4 x13 H) (B45 P x2 x4 H)
def L46 (P:PT):Y k9:=fun x2 x4 x13 H=>
  ∃ (I:Y k9) (μ:NTy k9 (AHeap→Nat)),I x2 x4 x13 H∧∀ y2 y4 y13 G,I y2 y4 y13 G→B49 P (fun z2 z4 z13 G'=>I z2 z4 z13 G'∧μ z2 z4 z13 G'<μ y2 y4 y13 G) y2 y4 y13 G
theorem l46 P:LQ k9 (L46 P) (B49 P):=fun ⟨_,_,_,_⟩ _ ⟨I,μ,h0,hI⟩=>⟨apT _ I,apT _ μ,h0,fun ⟨_,_,_,_⟩ _ h=>hI _ _ _ _  h⟩
def B50 (P:PT):Y k1:=fun x2 x4 H=>
  L46 P x2 x4 0 H
abbrev k10:Sk:=[(2,.x),(4,.v),(15,.s)]
def B51 (P:PT):Y k10:=fun x2 x4 x15 H=>
  pif (ByteArray.toList x15==ByteArray.toList (⟨#[98,114,105,100,103,101]⟩)) (B50 P x2 x4 H) (B1 P x2 H)
def B52 (P:PT):Y k10:=fun x2 x4 x15 H=>
  pif (ByteArray.toList x15==ByteArray.toList (⟨#[102,108,111,119,101,114,53]⟩)) (B44 P x2 x4 H) (B51 P x2 x4 x15 H)
def B53 (P:PT):Y k10:=fun x2 x4 x15 H=>
  pif (ByteArray.toList x15==ByteArray.toList (⟨#[116,105,101,116,122,101]⟩)) (B37 P x2 x4 H) (B52 P x2 x4 x15 H)
def B54 (P:PT):Y k10:=fun x2 x4 x15 H=>
  pif (ByteArray.toList x15==ByteArray.toList (⟨#[112,101,116,101,114,115,101,110]⟩)) (B28 P x2 x4 H) (B53 P x2 x4 x15 H)
def B55 (P:PT):Y k10:=fun x2 x4 x15 H=>
  pif (ByteArray.toList x15==ByteArray.toList (⟨#[99,117,98,101]⟩)) (B22 P x2 x4 H) (B54 P x2 x4 x15 H)
def B56 (P:PT):Y k10:=fun x2 x4 x15 H=>
  pif (ByteArray.toList x15==ByteArray.toList (⟨#[112,114,105,115,109]⟩)) (B11 P x2 x4 H) (B55 P x2 x4 x15 H)
def B57 (P:PT):Y k10:=fun x2 x4 x15 H=>
  pif (ByteArray.toList x15==ByteArray.toList (⟨#[107,51,51]⟩)) (B9 P x2 x4 H) (B56 P x2 x4 x15 H)
def B58 (P:PT):Y k10:=fun x2 x4 x15 H=>
  pif (ByteArray.toList x15==ByteArray.toList (⟨#[107,52]⟩)) (B3 P x2 H) (B57 P x2 x4 x15 H)
def B59 (P:PT):Y k10:=fun x2 x4 x15 H=>
  pif (ByteArray.toList x15==ByteArray.toList (⟨#[116,104,101,116,97]⟩)) (B2 P x2 H) (B58 P x2 x4 x15 H)
abbrev k11:Sk:=[(0,.s),(2,.x),(4,.v)]
def B60 (P:PT):Y k11:=fun x0 x2 x4 H=>
  B59 P x2 x4 x0 H
abbrev k12:Sk:=[(0,.s),(2,.x)]
def B61 (P:PT):Y k12:=fun x0 x2 H=>
  newK H [] 28 (fun b1 H2=>B60 P x0 x2 (slice (some ⟨b1,0,none⟩) 0 (0+1)) H2)
abbrev k13:Sk:=[(0,.s)]
def B62 (P:PT):Y k13:=fun x0 H=>
  newK H [(I 0),(slice none 0 0)] 31 (fun b1 H2=>B61 P x0 b1 H2)
def code:Code:=(.seq (R 0 2) (.seq (R 1 6) (.seq (.seq (R 2 28) (.block 0 (.seq (R 3 116) (.cond (.tmp 16) (.seq (R 4 468) .ret) (.seq (R 5 470) (.cond (.tmp 23) (.seq (R 6 1884) .ret) (.seq (R 7 1886) (.cond (.tmp 33) (.seq (.seq (R 8 15096) (.block 1 (.loop (.seq (.seq (R 9 241552) (.cond (.tmp 36) .skip (.exit 1))) (.seq (.block 2 (R 11 483108)) (R 10 241555)))))) (.seq (R 12 15098) .ret)) (.seq (R 13 7550) (.cond (.tmp 50) (.seq (R 14 30204) (.seq (R 15 60410) .ret)) (.seq (R 16 30206) (.cond (.tmp 64) (.seq (.seq (R 17 241656) (.block 3 (.loop (.seq (.seq (R 18 3866512) (.cond (.tmp 67) .skip (.exit 3))) (.seq (.block 4 (.seq (R 20 15466056) (.block 5 (.loop (.seq (.seq (R 21 247456912) (.cond (.tmp 71) .skip (.exit 5))) (.seq (.block 6 (.seq (R 23 989827656) (.cond (.tmp 77) (R 24 1979655314) .skip))) (R 22 247456915))))))) (R 19 3866515)))))) (.seq (R 25 241658) .ret)) (.seq (R 26 120830) (.cond (.tmp 88) (.seq (.seq (R 27 966648) (.block 7 (.loop (.seq (.seq (R 28 15466384) (.cond (.tmp 91) .skip (.exit 7))) (.seq (.block 8 (R 30 30932772)) (R 29 15466387)))))) (.seq (R 31 966650) .ret)) (.seq (R 32 483326) (.cond (.tmp 115) (.seq (R 33 1933308) (.seq (.seq (R 34 7733236) (.block 9 (.loop (.seq (.seq (R 35 123731792) (.cond (.tmp 125) .skip (.exit 9))) (.seq (.block 10 (.seq (R 37 494927176) (.cond (.tmp 134) (R 38 989854354) .skip))) (R 36 123731795)))))) (.seq (R 39 7733238) (.seq (R 40 15466478) .ret)))) (.seq (R 41 1933310) (.cond (.tmp 153) (.seq (.seq (R 42 15466488) (.block 11 (.loop (.seq (.seq (R 43 247463824) (.cond (.tmp 156) .skip (.exit 11))) (.seq (.block 12 (R 45 494927652)) (R 44 247463827)))))) (.seq (R 46 15466490) (.seq (R 47 30932982) .ret))) (.seq (R 48 7733246) (.cond (.tmp 181) (.seq (.seq (R 49 61865976) (.block 13 (.loop (.seq (.seq (R 50 989855632) (.cond (.tmp 184) .skip (.exit 13))) (.seq (.block 14 (R 52 1979711268)) (R 51 989855635)))))) (.seq (R 53 61865978) .ret)) .skip)))))))))))))))))))) (.seq (R 54 30) .ret))))
theorem body:Tryz.f182.body=some code:=by kernel_rfl
theorem main P:Z 228 k13 (B62 P) code (ret P):=
  (r_seq (b (E k12 (B61 P))) (r_seq (b (E k11 (B60 P))) (r_seq (r_seq (b (E k10 (B59 P))) (r_block (r_seq (b (cnd 16 (E k0 (B2 P)) (E k10 (B58 P)))) (r_cond rfl (r_seq (b (ret P)) r_ret) (r_seq (b (cnd 23 (E k0 (B3 P)) (E k10 (B57 P)))) (r_cond rfl (r_seq (b (ret P)) r_ret) (r_seq (b (cnd 33 (E k1 (B9 P)) (E k10 (B56 P)))) (r_cond rfl (r_seq (r_seq (b (E k2 (L5 P))) (r_block (rL (l5 P) (fun N5=>(r_seq (r_seq (b (cnd 36 (E k2 (B7 P N5)) (E k1 (B4 P)))) (r_cond rfl r_skip (r_exit (fun _ _ h=>h)))) (r_seq (r_block (b (E k2 (B6 P N5)))) (b (E k2 N5)))))))) (r_seq (b (ret P)) r_ret)) (r_seq (b (cnd 50 (E k1 (B11 P)) (E k10 (B55 P)))) (r_cond rfl (r_seq (b (E k1 (B10 P))) (r_seq (b (ret P)) r_ret)) (r_seq (b (cnd 64 (E k1 (B22 P)) (E k10 (B54 P)))) (r_cond rfl (r_seq (r_seq (b (E k3 (L13 P))) (r_block (rL (l13 P) (fun N13=>(r_seq (r_seq (b (cnd 67 (E k3 (B20 P N13)) (E k1 (B12 P)))) (r_cond rfl r_skip (r_exit (fun _ _ h=>h)))) (r_seq (r_block (r_seq (b (E k4 (L15 P N13))) (r_block (rL (l15 P N13) (fun N15=>(r_seq (r_seq (b (cnd 71 (E k4 (B18 P N13 N15)) (E k3 (B14 P N13)))) (r_cond rfl r_skip (r_exit (fun _ _ h=>h)))) (r_seq (r_block (r_seq (b (cnd 77 (E k4 (B17 P N13 N15)) (E k4 (B16 P N13 N15)))) (r_cond rfl (b (E k4 (B16 P N13 N15))) r_skip))) (b (E k4 N15))))))))) (b (E k3 N13)))))))) (r_seq (b (ret P)) r_ret)) (r_seq (b (cnd 88 (E k1 (B28 P)) (E k10 (B53 P)))) (r_cond rfl (r_seq (r_seq (b (E k5 (L24 P))) (r_block (rL (l24 P) (fun N24=>(r_seq (r_seq (b (cnd 91 (E k5 (B26 P N24)) (E k1 (B23 P)))) (r_cond rfl r_skip (r_exit (fun _ _ h=>h)))) (r_seq (r_block (b (E k5 (B25 P N24)))) (b (E k5 N24)))))))) (r_seq (b (ret P)) r_ret)) (r_seq (b (cnd 115 (E k1 (B37 P)) (E k10 (B52 P)))) (r_cond rfl (r_seq (b (E k7 (B36 P))) (r_seq (r_seq (b (E k6 (L31 P))) (r_block (rL (l31 P) (fun N31=>(r_seq (r_seq (b (cnd 125 (E k6 (B34 P N31)) (E k1 (B30 P)))) (r_cond rfl r_skip (r_exit (fun _ _ h=>h)))) (r_seq (r_block (r_seq (b (cnd 134 (E k6 (B33 P N31)) (E k6 (B32 P N31)))) (r_cond rfl (b (E k6 (B32 P N31))) r_skip))) (b (E k6 N31)))))))) (r_seq (b (E k1 (B29 P))) (r_seq (b (ret P)) r_ret)))) (r_seq (b (cnd 153 (E k1 (B44 P)) (E k10 (B51 P)))) (r_cond rfl (r_seq (r_seq (b (E k8 (L40 P))) (r_block (rL (l40 P) (fun N40=>(r_seq (r_seq (b (cnd 156 (E k8 (B42 P N40)) (E k1 (B39 P)))) (r_cond rfl r_skip (r_exit (fun _ _ h=>h)))) (r_seq (r_block (b (E k8 (B41 P N40)))) (b (E k8 N40)))))))) (r_seq (b (E k1 (B38 P))) (r_seq (b (ret P)) r_ret))) (r_seq (b (cnd 181 (E k1 (B50 P)) (E k0 (B1 P)))) (r_cond rfl (r_seq (r_seq (b (E k9 (L46 P))) (r_block (rL (l46 P) (fun N46=>(r_seq (r_seq (b (cnd 184 (E k9 (B48 P N46)) (E k1 (B45 P)))) (r_cond rfl r_skip (r_exit (fun _ _ h=>h)))) (r_seq (r_block (b (E k9 (B47 P N46)))) (b (E k9 N46)))))))) (r_seq (b (ret P)) r_ret)) r_skip)))))))))))))))))))) (r_seq (b (ret P)) r_ret))))
theorem ac (P:PT) (x0:ByteArray) (H:AHeap) (h:B62 P x0 H):A 182 [(string x0)] H P:=
  r_fn T0_ok (c:=code) (n:=228) Tryz.func182 body (by kernel_rfl) (main P) (En_mk (x0,()) (by kernel_rfl) ⟨by kernel_rfl,trivial⟩ h)

end F182
namespace F183
abbrev E:=En 41
def O (k:Nat):=ob Tryz.f183 (pth k)
abbrev R (i k:Nat):Code:=.region i ⟨O k⟩ false
def ret (P:PT):EP:=retE T0 41 Tryz.f183 P
abbrev k0:Sk:=[(2,.x),(4,.x),(5,.v)]
def B1 (P:PT):Y k0:=fun x2 x4 x5 H=>
  li H x2 0 (fun v1=>A 60 [(I v1),x5] H (fun v2 H3=>agg2 v2 (fun v4 v5=>asI .i64 v4 (fun v6=>stK H3 x4 0 [(I v6),v5] (fun H8=>li H8 x4 0 (fun v9=>ld1 H8 x4 1 (fun v10=>P (agg ⟨[(I v9),v10]⟩) H8)))))))
abbrev k1:Sk:=[(1,.v),(2,.x),(4,.x),(5,.v),(6,J)]
def o3:=O 467
def B3 (P:PT) (N2:Y k1):Y k1:=fun x1 x2 x4 x5 x6 H=>
  N2 x1 x2 x4 x5 (i64.wrap (x6+1)) H
def o4:=O 932
def B4 (P:PT) (N2:Y k1):Y k1:=fun x1 x2 x4 x5 x6 H=>
  ld1 H x2 1 (fun v1=>idxK v1 x6 2 (fun b2 o3=>li H b2 o3 (fun v4=>idxK x1 v4 1 (fun b5 o6=>li H b5 o6 (fun v7=>ld1 H x2 1 (fun v8=>idxK v8 x6 2 (fun b9 o10=>li H b9 (o10+1) (fun v11=>idxK x1 v11 1 (fun b12 o13=>li H b12 o13 (fun v14=>newK H [(I v7),(I v14)] 28 (fun b15 H16=>apK T0 28 H16 x5 (slice (some ⟨b15,0,none⟩) 1 (1+1)) (fun v17 H18=>B3 P N2 x1 x2 x4 v17 x6 H18))))))))))))
theorem q4 (P:PT) (N2:Y k1):QD Tryz.prog T0 41 o4 [(0,false),(1,false),(2,false),(3,false),(4,false),(5,false),(6,false),(7,false),(8,false),(9,false),(10,false),(11,false),(12,false),(13,false),(14,false),(15,false),(16,false),(17,false),(18,false),(19,false),(20,false),(21,false),(22,false)] (En 41 k1 (B3 P N2)) k1 (B4 P N2):=fun _ _ _ _ _ _ _  => by kernel_rfl
def B5 (P:PT) (N2:Y k1):Y k1:=fun x1 x2 x4 x5 x6 H=>
  ld1 H x2 1 (fun v1=>lenK v1 (fun n2=>pif (decide ((x6:Int)<(n2:Int))) (B4 P N2 x1 x2 x4 x5 x6 H) (B1 P x2 x4 x5 H)))
def L2 (P:PT):Y k1:=fun x1 x2 x4 x5 x6 H=>
  ∃ (I:Y k1) (μ:NTy k1 (AHeap→Nat)),I x1 x2 x4 x5 x6 H∧∀ y1 y2 y4 y5 y6 G,I y1 y2 y4 y5 y6 G→B5 P (fun z1 z2 z4 z5 z6 G'=>I z1 z2 z4 z5 z6 G'∧μ z1 z2 z4 z5 z6 G'<μ y1 y2 y4 y5 y6 G) y1 y2 y4 y5 y6 G
theorem l2 P:LQ k1 (L2 P) (B5 P):=fun ⟨_,_,_,_,_,_⟩ _ ⟨I,μ,h0,hI⟩=>⟨apT _ I,apT _ μ,h0,fun ⟨_,_,_,_,_,_⟩ _ h=>hI _ _ _ _ _ _  h⟩
abbrev k2:Sk:=[(1,.v),(2,.x),(4,.x),(5,.v)]
def o6:=O 28
def B6 (P:PT):Y k2:=fun x1 x2 x4 x5 H=>
  L2 P x1 x2 x4 x5 0 H
abbrev k3:Sk:=[(1,.v),(2,.x),(4,.x)]
def B7 (P:PT):Y k3:=fun x1 x2 x4 H=>
  newK H [] 28 (fun b1 H2=>B6 P x1 x2 x4 (slice (some ⟨b1,0,none⟩) 0 (0+1)) H2)
abbrev k4:Sk:=[(0,.g [.i,.v]),(1,.v)]
def B8 (P:PT):Y k4:=fun x0a x0b x1 H=>
  newK H [(I x0a),x0b] 31 (fun b1 H2=>newK H2 [(I 0),(slice none 0 0)] 31 (fun b3 H4=>B7 P x1 b1 b3 H4))
def code:Code:=(.seq (R 0 2) (.seq (R 1 6) (.seq (.seq (R 2 28) (.block 0 (.loop (.seq (.seq (R 3 464) (.cond (.tmp 12) .skip (.exit 0))) (.seq (.block 1 (.region 5 ⟨o4⟩ true)) (R 4 467)))))) (.seq (R 6 30) .ret))))
theorem body:Tryz.f183.body=some code:=by kernel_rfl
theorem main P:Z 41 k4 (B8 P) code (ret P):=
  (r_seq (b (E k3 (B7 P))) (r_seq (b (E k2 (B6 P))) (r_seq (r_seq (b (E k1 (L2 P))) (r_block (rL (l2 P) (fun N2=>(r_seq (r_seq (b (cnd 12 (E k1 (B4 P N2)) (E k0 (B1 P)))) (r_cond rfl r_skip (r_exit (fun _ _ h=>h)))) (r_seq (r_block (rD T0_ok mixed [(0,false),(1,false),(2,false),(3,false),(4,false),(5,false),(6,false),(7,false),(8,false),(9,false),(10,false),(11,false),(12,false),(13,false),(14,false),(15,false),(16,false),(17,false),(18,false),(19,false),(20,false),(21,false),(22,false)] (by kernel_rfl) (q4 P N2))) (b (E k1 N2)))))))) (r_seq (b (ret P)) r_ret))))
theorem ac (P:PT) (x0a:Int) (x0b x1:Value) (H:AHeap) (h:B8 P x0a x0b x1 H):A 183 [(agg ⟨[(I x0a),x0b]⟩),x1] H P:=
  r_fn T0_ok (c:=code) (n:=41) Tryz.func183 body (by kernel_rfl) (main P) (En_mk (x0a,x0b,x1,()) (by kernel_rfl) ⟨by kernel_rfl,by kernel_rfl,trivial⟩ h)

end F183
namespace F184
abbrev E:=En 30
def O (k:Nat):=ob Tryz.f184 (pth k)
abbrev R (i k:Nat):Code:=.region i ⟨O k⟩ false
def ret (P:PT):EP:=retE T0 30 Tryz.f184 P
abbrev k0:Sk:=[(5,.v)]
def B1 (P:PT):Y k0:=fun x5 H=>
  P x5 H
abbrev k1:Sk:=[(0,.v),(1,J),(5,.v),(6,J)]
def B3 (P:PT) (N2:Y k1):Y k1:=fun x0 x1 x5 x6 H=>
  N2 x0 x1 x5 (i64.wrap (x6+1)) H
abbrev k2:Sk:=[(0,.v),(1,J),(5,.v),(6,J),(7,J)]
def o4:=O 1865
def B4 (P:PT) (N2:Y k1):Y k2:=fun x0 x1 x5 x6 x7 H=>
  sliceK H 2 x5 none (some (I x7)) 1 (fun v1=>sliceK H 2 x5 (some (I x7)) none 1 (fun v2=>(A 89 [v1] H (fun v3 H4=>(sliceK H4 2 x5 (some (I x7)) none 1 (fun v6=>(v6=v2)∧(H4=H4)))∧(newK H4 [(I x6)] 2 (fun b7 H8=>apK T0 2 H8 v3 (slice (some ⟨b7,0,none⟩) 1 (1+1)) (fun v9 H10=>(sliceK H10 2 x5 (some (I x7)) none 1 (fun v11=>(v11=v2)∧(H10=H10)))∧(apK T0 2 H10 v9 v2 (fun v12 H13=>B3 P N2 x0 x1 v12 x6 H13)))))))∧(newK H [(I x6)] 2 (fun b14 H15=>A 89 [v1] H15 (fun v16 H17=>(sliceK H17 2 x5 (some (I x7)) none 1 (fun v19=>(v19=v2)∧(H17=H17)))∧(apK T0 2 H17 v16 (slice (some ⟨b14,0,none⟩) 1 (1+1)) (fun v20 H21=>(sliceK H21 2 x5 (some (I x7)) none 1 (fun v22=>(v22=v2)∧(H21=H21)))∧(apK T0 2 H21 v20 v2 (fun v23 H24=>B3 P N2 x0 x1 v23 x6 H24)))))))))
theorem q4 (P:PT) (N2:Y k1):QT Tryz.prog T0 30 o4 (.op 0 [] (.op 1 [] (.op 2 [] (.op 4 [] (.op 7 [] (.op 8 [] (.op 9 [] (.alt (.op 3 [9] (.op 5 [] (.op 6 [9] (.op 10 [] (.op 11 [] .done))))) (.op 5 [] (.op 3 [9] (.op 6 [9] (.op 10 [] (.op 11 [] .done))))))))))))) (En 30 k1 (B3 P N2)) k2 (B4 P N2):=fun _ _ _ _ _ _ _  => by kernel_rfl
def B5 (P:PT) (N2:Y k1):Y k1:=fun x0 x1 x5 x6 H=>
  A 88 [x0,(I (i64.wrap (x6+1)))] H (fun v1 H2=>asI .i64 v1 (fun v3=>B4 P N2 x0 x1 x5 x6 v3 H2))
def B6 (P:PT) (N2:Y k1):Y k1:=fun x0 x1 x5 x6 H=>
  pif (decide ((x6:Int)<x1)) (B5 P N2 x0 x1 x5 x6 H) (B1 P x5 H)
def L2 (P:PT):Y k1:=fun x0 x1 x5 x6 H=>
  ∃ (I:Y k1) (μ:NTy k1 (AHeap→Nat)),I x0 x1 x5 x6 H∧∀ y0 y1 y5 y6 G,I y0 y1 y5 y6 G→B6 P (fun z0 z1 z5 z6 G'=>I z0 z1 z5 z6 G'∧μ z0 z1 z5 z6 G'<μ y0 y1 y5 y6 G) y0 y1 y5 y6 G
theorem l2 P:LQ k1 (L2 P) (B6 P):=fun ⟨_,_,_,_,_⟩ _ ⟨I,μ,h0,hI⟩=>⟨apT _ I,apT _ μ,h0,fun ⟨_,_,_,_,_⟩ _ h=>hI _ _ _ _ _  h⟩
abbrev k3:Sk:=[(0,.v),(1,J),(5,.v)]
def B7 (P:PT):Y k3:=fun x0 x1 x5 H=>
  L2 P x0 x1 x5 0 H
abbrev k4:Sk:=[(0,.v),(1,J)]
def B8 (P:PT):Y k4:=fun x0 x1 H=>
  newK H [] 2 (fun b1 H2=>B7 P x0 x1 (slice (some ⟨b1,0,none⟩) 0 (0+1)) H2)
def B9 (P:PT):Y k4:=fun x0 x1 H=>
  B8 P x0 x1 H
def code:Code:=(.seq (R 0 2) (.seq (R 1 6) (.seq (.seq (R 2 28) (.block 0 (.loop (.seq (.seq (R 3 464) (.cond (.tmp 11) .skip (.exit 0))) (.seq (.block 1 (.seq (R 5 1864) (.region 6 ⟨o4⟩ true))) (R 4 467)))))) (.seq (R 7 30) .ret))))
theorem body:Tryz.f184.body=some code:=by kernel_rfl
theorem main P:Z 30 k4 (B9 P) code (ret P):=
  (r_seq (b (E k4 (B8 P))) (r_seq (b (E k3 (B7 P))) (r_seq (r_seq (b (E k1 (L2 P))) (r_block (rL (l2 P) (fun N2=>(r_seq (r_seq (b (cnd 11 (E k1 (B5 P N2)) (E k0 (B1 P)))) (r_cond rfl r_skip (r_exit (fun _ _ h=>h)))) (r_seq (r_block (r_seq (b (E k2 (B4 P N2))) (rT T0_ok mixed (.op 0 [] (.op 1 [] (.op 2 [] (.op 4 [] (.op 7 [] (.op 8 [] (.op 9 [] (.alt (.op 3 [9] (.op 5 [] (.op 6 [9] (.op 10 [] (.op 11 [] .done))))) (.op 5 [] (.op 3 [9] (.op 6 [9] (.op 10 [] (.op 11 [] .done))))))))))))) (by kernel_rfl) (q4 P N2)))) (b (E k1 N2)))))))) (r_seq (b (ret P)) r_ret))))
theorem ac (P:PT) (x0:Value) (x1:Int) (H:AHeap) (h:B9 P x0 x1 H):A 184 [x0,(I x1)] H P:=
  r_fn T0_ok (c:=code) (n:=30) Tryz.func184 body (by kernel_rfl) (main P) (En_mk (x0,x1,()) (by kernel_rfl) ⟨by kernel_rfl,by kernel_rfl,trivial⟩ h)

end F184
namespace F185
abbrev E:=En 87
def O (k:Nat):=ob Tryz.f185 (pth k)
abbrev R (i k:Nat):Code:=.region i ⟨O k⟩ false
def ret (P:PT):EP:=retE T0 87 Tryz.f185 P
abbrev k0:Sk:=[(1,J),(4,.x),(12,.v)]
def B1 (P:PT):Y k0:=fun x1 x4 x12 H=>
  A 60 [(I x1),x12] H (fun v1 H2=>agg2 v1 (fun v3 v4=>asI .i64 v3 (fun v5=>stK H2 x4 0 [(I v5),v4] (fun H7=>li H7 x4 0 (fun v8=>ld1 H7 x4 1 (fun v9=>P (agg ⟨[(I v8),v9]⟩) H7))))))
abbrev k1:Sk:=[(1,J),(4,.x),(12,.v),(13,J)]
def B3 (P:PT) (N2:Y k1):Y k1:=fun x1 x4 x12 x13 H=>
  N2 x1 x4 x12 (i64.wrap (x13+1)) H
def B4 (P:PT) (N2:Y k1):Y k1:=fun x1 x4 x12 x13 H=>
  newK H [(I x13),(I (i64.wrap (x13+(i64.wrap (Int.tdiv x1 2)))))] 28 (fun b1 H2=>apK T0 28 H2 x12 (slice (some ⟨b1,0,none⟩) 1 (1+1)) (fun v3 H4=>B3 P N2 x1 x4 v3 x13 H4))
def o5:=O 7826
def B5 (P:PT) (N2:Y k1):Y k1:=fun x1 x4 x12 x13 H=>
  pif (decide ((x13:Int)<(i64.wrap (Int.tdiv x1 2)))) (B4 P N2 x1 x4 x12 x13 H) (B3 P N2 x1 x4 x12 x13 H)
def B6 (P:PT) (N2:Y k1):Y k1:=fun x1 x4 x12 x13 H=>
  nzK x1 (newK H [(I x13),(I (Int.tmod (i64.wrap (x13+1)) x1))] 28 (fun b1 H2=>apK T0 28 H2 x12 (slice (some ⟨b1,0,none⟩) 1 (1+1)) (fun v3 H4=>B5 P N2 x1 x4 v3 x13 H4)))
def B7 (P:PT) (N2:Y k1):Y k1:=fun x1 x4 x12 x13 H=>
  pif (decide ((x13:Int)<x1)) (B6 P N2 x1 x4 x12 x13 H) (B1 P x1 x4 x12 H)
def L2 (P:PT):Y k1:=fun x1 x4 x12 x13 H=>
  ∃ (I:Y k1) (μ:NTy k1 (AHeap→Nat)),I x1 x4 x12 x13 H∧∀ y1 y4 y12 y13 G,I y1 y4 y12 y13 G→B7 P (fun z1 z4 z12 z13 G'=>I z1 z4 z12 z13 G'∧μ z1 z4 z12 z13 G'<μ y1 y4 y12 y13 G) y1 y4 y12 y13 G
theorem l2 P:LQ k1 (L2 P) (B7 P):=fun ⟨_,_,_,_,_⟩ _ ⟨I,μ,h0,hI⟩=>⟨apT _ I,apT _ μ,h0,fun ⟨_,_,_,_,_⟩ _ h=>hI _ _ _ _ _  h⟩
def B8 (P:PT):Y k0:=fun x1 x4 x12 H=>
  L2 P x1 x4 x12 0 H
abbrev k2:Sk:=[(1,J),(4,.x)]
def B9 (P:PT):Y k2:=fun x1 x4 H=>
  newK H [] 28 (fun b1 H2=>B8 P x1 x4 (slice (some ⟨b1,0,none⟩) 0 (0+1)) H2)
abbrev k3:Sk:=[(0,.v),(1,J),(4,.x),(5,J)]
def B11 (P:PT) (N10:Y k3):Y k3:=fun x0 x1 x4 x5 H=>
  N10 x0 x1 x4 (i64.wrap (x5+1)) H
abbrev k4:Sk:=[(1,J),(4,.x),(7,.v)]
def B12 (P:PT) (N10:Y k3):Y k4:=fun x1 x4 x7 H=>
  A 60 [(I x1),x7] H (fun v1 H2=>agg2 v1 (fun v3 v4=>asI .i64 v3 (fun v5=>stK H2 x4 0 [(I v5),v4] (fun H7=>li H7 x4 0 (fun v8=>ld1 H7 x4 1 (fun v9=>P (agg ⟨[(I v8),v9]⟩) H7))))))
abbrev k5:Sk:=[(0,.v),(1,J),(4,.x),(5,J),(7,.v),(8,.b)]
def B13 (P:PT) (N10:Y k3):Y k5:=fun x0 x1 x4 x5 x7 x8 H=>
  pif x8 (B12 P N10 x1 x4 x7 H) (B11 P N10 x0 x1 x4 x5 H)
abbrev k6:Sk:=[(0,.v),(1,J),(4,.x),(5,J),(6,.v),(7,.v),(8,.b),(9,J)]
def B15 (P:PT) (N10:Y k3) (N14:Y k6):Y k6:=fun x0 x1 x4 x5 x6 x7 x8 x9 H=>
  N14 x0 x1 x4 x5 x6 x7 x8 (i64.wrap (x9+2)) H
abbrev k7:Sk:=[(0,.v),(1,J),(4,.x),(5,J),(6,.v),(7,.v),(8,.b),(9,J),(10,J),(11,J)]
def B16 (P:PT) (N10:Y k3) (N14:Y k6):Y k7:=fun x0 x1 x4 x5 x6 x7 x8 x9 x10 x11 H=>
  pif x8 (B15 P N10 N14 x0 x1 x4 x5 x6 x7 ((x10:Int) != x11) x9 H) (B15 P N10 N14 x0 x1 x4 x5 x6 x7 false x9 H)
def B17 (P:PT) (N10:Y k3) (N14:Y k6):Y k7:=fun x0 x1 x4 x5 x6 x7 x8 x9 x10 x11 H=>
  newK H [(I x10),(I x11)] 28 (fun b1 H2=>apK T0 28 H2 x7 (slice (some ⟨b1,0,none⟩) 1 (1+1)) (fun v3 H4=>B16 P N10 N14 x0 x1 x4 x5 x6 v3 x8 x9 x10 x11 H4))
def o18:=O 215368
def B18 (P:PT) (N10:Y k3) (N14:Y k6):Y k6:=fun x0 x1 x4 x5 x6 x7 x8 x9 H=>
  idxK x6 x9 1 (fun b1 o2=>li H b1 o2 (fun v3=>idxK x6 (i64.wrap (x9+1)) 1 (fun b4 o5=>li H b4 o5 (fun v6=>B17 P N10 N14 x0 x1 x4 x5 x6 x7 x8 x9 (i64.wrap (Int.tdiv v3 3)) (i64.wrap (Int.tdiv v6 3)) H))))
theorem q18 (P:PT) (N10:Y k3) (N14:Y k6):QD Tryz.prog T0 87 o18 [(0,false),(1,false),(2,false),(3,false),(4,false),(5,false),(6,false),(7,false),(8,false),(9,false),(10,false),(11,false),(12,false)] (En 87 k7 (B17 P N10 N14)) k6 (B18 P N10 N14):=fun _ _ _ _ _ _ _ _ _ _  => by kernel_rfl
def B19 (P:PT) (N10:Y k3) (N14:Y k6):Y k6:=fun x0 x1 x4 x5 x6 x7 x8 x9 H=>
  lenK x6 (fun n1=>pif (decide ((x9:Int)<(n1:Int))) (B18 P N10 N14 x0 x1 x4 x5 x6 x7 x8 x9 H) (B13 P N10 x0 x1 x4 x5 x7 x8 H))
def L14 (P:PT) (N10:Y k3):Y k6:=fun x0 x1 x4 x5 x6 x7 x8 x9 H=>
  ∃ (I:Y k6) (μ:NTy k6 (AHeap→Nat)),I x0 x1 x4 x5 x6 x7 x8 x9 H∧∀ y0 y1 y4 y5 y6 y7 y8 y9 G,I y0 y1 y4 y5 y6 y7 y8 y9 G→B19 P N10 (fun z0 z1 z4 z5 z6 z7 z8 z9 G'=>I z0 z1 z4 z5 z6 z7 z8 z9 G'∧μ z0 z1 z4 z5 z6 z7 z8 z9 G'<μ y0 y1 y4 y5 y6 y7 y8 y9 G) y0 y1 y4 y5 y6 y7 y8 y9 G
theorem l14 P N10:LQ k6 (L14 P N10) (B19 P N10):=fun ⟨_,_,_,_,_,_,_,_,_⟩ _ ⟨I,μ,h0,hI⟩=>⟨apT _ I,apT _ μ,h0,fun ⟨_,_,_,_,_,_,_,_,_⟩ _ h=>hI _ _ _ _ _ _ _ _ _  h⟩
abbrev k8:Sk:=[(0,.v),(1,J),(4,.x),(5,J),(6,.v),(7,.v),(8,.b)]
def B20 (P:PT) (N10:Y k3):Y k8:=fun x0 x1 x4 x5 x6 x7 x8 H=>
  L14 P N10 x0 x1 x4 x5 x6 x7 x8 0 H
def B21 (P:PT) (N10:Y k3):Y k3:=fun x0 x1 x4 x5 H=>
  A 184 [x0,(I (i64.wrap (3*x1)))] H (fun v1 H2=>newK H2 [] 28 (fun b4 H5=>B20 P N10 x0 x1 x4 x5 v1 (slice (some ⟨b4,0,none⟩) 0 (0+1)) true H5))
def B22 (P:PT) (N10:Y k3):Y k3:=fun x0 x1 x4 x5 H=>
  pif (decide ((x5:Int)<20)) (B21 P N10 x0 x1 x4 x5 H) (B9 P x1 x4 H)
def L10 (P:PT):Y k3:=fun x0 x1 x4 x5 H=>
  ∃ (I:Y k3) (μ:NTy k3 (AHeap→Nat)),I x0 x1 x4 x5 H∧∀ y0 y1 y4 y5 G,I y0 y1 y4 y5 G→B22 P (fun z0 z1 z4 z5 G'=>I z0 z1 z4 z5 G'∧μ z0 z1 z4 z5 G'<μ y0 y1 y4 y5 G) y0 y1 y4 y5 G
theorem l10 P:LQ k3 (L10 P) (B22 P):=fun ⟨_,_,_,_,_⟩ _ ⟨I,μ,h0,hI⟩=>⟨apT _ I,apT _ μ,h0,fun ⟨_,_,_,_,_⟩ _ h=>hI _ _ _ _ _  h⟩
abbrev k9:Sk:=[(0,.v),(1,J),(4,.x)]
def B23 (P:PT):Y k9:=fun x0 x1 x4 H=>
  L10 P x0 x1 x4 0 H
abbrev k10:Sk:=[(0,.v),(1,J)]
def B24 (P:PT):Y k10:=fun x0 x1 H=>
  newK H [(I 0),(slice none 0 0)] 31 (fun b1 H2=>B23 P x0 x1 b1 H2)
def code:Code:=(.seq (R 0 2) (.seq (.seq (R 1 12) (.block 0 (.loop (.seq (.seq (R 2 208) (.cond (.tmp 15) .skip (.exit 0))) (.seq (.block 1 (.seq (R 4 840) (.seq (.seq (R 5 3364) (.block 2 (.loop (.seq (.seq (R 6 53840) (.cond (.tmp 26) .skip (.exit 2))) (.seq (.block 3 (.seq (.region 8 ⟨o18⟩ true) (.seq (R 9 430738) (R 10 430739)))) (R 7 53843)))))) (.seq (R 11 3366) (.cond (.tmp 52) (.seq (R 12 13468) .ret) .skip))))) (R 3 211)))))) (.seq (R 13 14) (.seq (.seq (R 14 60) (.block 4 (.loop (.seq (.seq (R 15 976) (.cond (.tmp 59) .skip (.exit 4))) (.seq (.block 5 (.seq (R 17 3912) (.seq (R 18 7826) (.cond (.tmp 74) (R 19 15654) .skip)))) (R 16 979)))))) (.seq (R 20 62) .ret)))))
theorem body:Tryz.f185.body=some code:=by kernel_rfl
theorem main P:Z 87 k10 (B24 P) code (ret P):=
  (r_seq (b (E k9 (B23 P))) (r_seq (r_seq (b (E k3 (L10 P))) (r_block (rL (l10 P) (fun N10=>(r_seq (r_seq (b (cnd 15 (E k3 (B21 P N10)) (E k2 (B9 P)))) (r_cond rfl r_skip (r_exit (fun _ _ h=>h)))) (r_seq (r_block (r_seq (b (E k8 (B20 P N10))) (r_seq (r_seq (b (E k6 (L14 P N10))) (r_block (rL (l14 P N10) (fun N14=>(r_seq (r_seq (b (cnd 26 (E k6 (B18 P N10 N14)) (E k5 (B13 P N10)))) (r_cond rfl r_skip (r_exit (fun _ _ h=>h)))) (r_seq (r_block (r_seq (rD T0_ok mixed [(0,false),(1,false),(2,false),(3,false),(4,false),(5,false),(6,false),(7,false),(8,false),(9,false),(10,false),(11,false),(12,false)] (by kernel_rfl) (q18 P N10 N14)) (r_seq (b (E k7 (B16 P N10 N14))) (b (E k6 (B15 P N10 N14)))))) (b (E k6 N14)))))))) (r_seq (b (cnd 52 (E k4 (B12 P N10)) (E k3 (B11 P N10)))) (r_cond rfl (r_seq (b (ret P)) r_ret) r_skip))))) (b (E k3 N10)))))))) (r_seq (b (E k0 (B8 P))) (r_seq (r_seq (b (E k1 (L2 P))) (r_block (rL (l2 P) (fun N2=>(r_seq (r_seq (b (cnd 59 (E k1 (B6 P N2)) (E k0 (B1 P)))) (r_cond rfl r_skip (r_exit (fun _ _ h=>h)))) (r_seq (r_block (r_seq (b (E k1 (B5 P N2))) (r_seq (b (cnd 74 (E k1 (B4 P N2)) (E k1 (B3 P N2)))) (r_cond rfl (b (E k1 (B3 P N2))) r_skip)))) (b (E k1 N2)))))))) (r_seq (b (ret P)) r_ret)))))
theorem ac (P:PT) (x0:Value) (x1:Int) (H:AHeap) (h:B24 P x0 x1 H):A 185 [x0,(I x1)] H P:=
  r_fn T0_ok (c:=code) (n:=87) Tryz.func185 body (by kernel_rfl) (main P) (En_mk (x0,x1,()) (by kernel_rfl) ⟨by kernel_rfl,by kernel_rfl,trivial⟩ h)

end F185
namespace F186
abbrev E:=En 51
def O (k:Nat):=ob Tryz.f186 (pth k)
abbrev R (i k:Nat):Code:=.region i ⟨O k⟩ false
def ret (P:PT):EP:=retE T0 51 Tryz.f186 P
abbrev k0:Sk:=[]
def B1 (P:PT):Y k0:=fun H=>
  P (bool false) H
abbrev k1:Sk:=[(1,.v),(2,.v),(3,.x),(7,J),(8,J)]
def B3 (P:PT) (N2:Y k1):Y k1:=fun x1 x2 x3 x7 x8 H=>
  N2 x1 x2 x3 x7 (i64.wrap (x8+1)) H
def B4 (P:PT) (N2:Y k1):Y k0:=fun H=>
  P (bool true) H
def o5:=O 8008
def B5 (P:PT) (N2:Y k1):Y k1:=fun x1 x2 x3 x7 x8 H=>
  li H x3 0 (fun v1=>ld1 H x3 1 (fun v2=>(A 89 [x2] H (fun v3 H4=>(li H4 x3 0 (fun v6=>ld1 H4 x3 1 (fun v7=>((agg ⟨[(I v6),v7]⟩)=(agg ⟨[(I v1),v2]⟩))∧(H4=H4))))∧(newK H4 [(I x8)] 2 (fun b8 H9=>apK T0 2 H9 v3 (slice (some ⟨b8,0,none⟩) 1 (1+1)) (fun v10 H11=>(li H11 x3 0 (fun v12=>ld1 H11 x3 1 (fun v13=>((agg ⟨[(I v12),v13]⟩)=(agg ⟨[(I v1),v2]⟩))∧(H11=H11))))∧(A 133 [(agg ⟨[(I v1),v2]⟩),v10,(I x7),(I x8)] H11 (fun v14 H15=>asB v14 (fun v16=>pif v16 (li H15 x3 0 (fun v17=>ld1 H15 x3 1 (fun v18=>(A 89 [x2] H15 (fun v19 H20=>(li H20 x3 0 (fun v22=>ld1 H20 x3 1 (fun v23=>((agg ⟨[(I v22),v23]⟩)=(agg ⟨[(I v17),v18]⟩))∧(H20=H20))))∧(newK H20 [(I x8)] 2 (fun b24 H25=>apK T0 2 H25 v19 (slice (some ⟨b24,0,none⟩) 1 (1+1)) (fun v26 H27=>(li H27 x3 0 (fun v28=>ld1 H27 x3 1 (fun v29=>((agg ⟨[(I v28),v29]⟩)=(agg ⟨[(I v17),v18]⟩))∧(H27=H27))))∧(A 186 [(agg ⟨[(I v17),v18]⟩),x1,v26] H27 (fun v30 H31=>asB v30 (fun v32=>pif v32 (B4 P N2 H31) (B3 P N2 x1 x2 x3 x7 x8 H31)))))))))∧(newK H15 [(I x8)] 2 (fun b33 H34=>A 89 [x2] H34 (fun v35 H36=>(li H36 x3 0 (fun v38=>ld1 H36 x3 1 (fun v39=>((agg ⟨[(I v38),v39]⟩)=(agg ⟨[(I v17),v18]⟩))∧(H36=H36))))∧(apK T0 2 H36 v35 (slice (some ⟨b33,0,none⟩) 1 (1+1)) (fun v40 H41=>(li H41 x3 0 (fun v42=>ld1 H41 x3 1 (fun v43=>((agg ⟨[(I v42),v43]⟩)=(agg ⟨[(I v17),v18]⟩))∧(H41=H41))))∧(A 186 [(agg ⟨[(I v17),v18]⟩),x1,v40] H41 (fun v44 H45=>asB v44 (fun v46=>pif v46 (B4 P N2 H45) (B3 P N2 x1 x2 x3 x7 x8 H45)))))))))))) ((B3 P N2 x1 x2 x3 x7 x8 H15)∧(B3 P N2 x1 x2 x3 x7 x8 H15))))))))))∧(newK H [(I x8)] 2 (fun b47 H48=>A 89 [x2] H48 (fun v49 H50=>(li H50 x3 0 (fun v52=>ld1 H50 x3 1 (fun v53=>((agg ⟨[(I v52),v53]⟩)=(agg ⟨[(I v1),v2]⟩))∧(H50=H50))))∧(apK T0 2 H50 v49 (slice (some ⟨b47,0,none⟩) 1 (1+1)) (fun v54 H55=>(li H55 x3 0 (fun v56=>ld1 H55 x3 1 (fun v57=>((agg ⟨[(I v56),v57]⟩)=(agg ⟨[(I v1),v2]⟩))∧(H55=H55))))∧(A 133 [(agg ⟨[(I v1),v2]⟩),v54,(I x7),(I x8)] H55 (fun v58 H59=>asB v58 (fun v60=>pif v60 (li H59 x3 0 (fun v61=>ld1 H59 x3 1 (fun v62=>(A 89 [x2] H59 (fun v63 H64=>(li H64 x3 0 (fun v66=>ld1 H64 x3 1 (fun v67=>((agg ⟨[(I v66),v67]⟩)=(agg ⟨[(I v61),v62]⟩))∧(H64=H64))))∧(newK H64 [(I x8)] 2 (fun b68 H69=>apK T0 2 H69 v63 (slice (some ⟨b68,0,none⟩) 1 (1+1)) (fun v70 H71=>(li H71 x3 0 (fun v72=>ld1 H71 x3 1 (fun v73=>((agg ⟨[(I v72),v73]⟩)=(agg ⟨[(I v61),v62]⟩))∧(H71=H71))))∧(A 186 [(agg ⟨[(I v61),v62]⟩),x1,v70] H71 (fun v74 H75=>asB v74 (fun v76=>pif v76 (B4 P N2 H75) (B3 P N2 x1 x2 x3 x7 x8 H75)))))))))∧(newK H59 [(I x8)] 2 (fun b77 H78=>A 89 [x2] H78 (fun v79 H80=>(li H80 x3 0 (fun v82=>ld1 H80 x3 1 (fun v83=>((agg ⟨[(I v82),v83]⟩)=(agg ⟨[(I v61),v62]⟩))∧(H80=H80))))∧(apK T0 2 H80 v79 (slice (some ⟨b77,0,none⟩) 1 (1+1)) (fun v84 H85=>(li H85 x3 0 (fun v86=>ld1 H85 x3 1 (fun v87=>((agg ⟨[(I v86),v87]⟩)=(agg ⟨[(I v61),v62]⟩))∧(H85=H85))))∧(A 186 [(agg ⟨[(I v61),v62]⟩),x1,v84] H85 (fun v88 H89=>asB v88 (fun v90=>pif v90 (B4 P N2 H89) (B3 P N2 x1 x2 x3 x7 x8 H89)))))))))))) ((B3 P N2 x1 x2 x3 x7 x8 H59)∧(B3 P N2 x1 x2 x3 x7 x8 H59))))))))))))
theorem q5 (P:PT) (N2:Y k1):QT Tryz.prog T0 51 o5 (.op 0 [] (.op 1 [] (.op 3 [] (.op 6 [] (.op 7 [] (.alt (.op 2 [0] (.op 4 [] (.op 5 [0] (.op 8 [] (.op 9 [] (.op 10 [] (.op 11 [] (.op 12 [] (.op 14 [] (.alt (.op 13 [10] (.op 15 [] (.op 16 [10] (.op 17 [] (.op 18 [] .done))))) (.op 15 [] (.op 13 [10] (.op 16 [10] (.op 17 [] (.op 18 [] .done))))))))))))))) (.op 4 [] (.op 2 [0] (.op 5 [0] (.op 8 [] (.op 9 [] (.op 10 [] (.op 11 [] (.op 12 [] (.op 14 [] (.alt (.op 13 [10] (.op 15 [] (.op 16 [10] (.op 17 [] (.op 18 [] .done))))) (.op 15 [] (.op 13 [10] (.op 16 [10] (.op 17 [] (.op 18 [] .done))))))))))))))))))))) (cnd 50 (En 51 k0 (B4 P N2)) (En 51 k1 (B3 P N2))) k1 (B5 P N2):=fun _ _ _ _ _ _ _  => by kernel_rfl
def B6 (P:PT) (N2:Y k1):Y k1:=fun x1 x2 x3 x7 x8 H=>
  pif (decide ((x8:Int)<3)) (B5 P N2 x1 x2 x3 x7 x8 H) (B1 P H)
def L2 (P:PT):Y k1:=fun x1 x2 x3 x7 x8 H=>
  ∃ (I:Y k1) (μ:NTy k1 (AHeap→Nat)),I x1 x2 x3 x7 x8 H∧∀ y1 y2 y3 y7 y8 G,I y1 y2 y3 y7 y8 G→B6 P (fun z1 z2 z3 z7 z8 G'=>I z1 z2 z3 z7 z8 G'∧μ z1 z2 z3 z7 z8 G'<μ y1 y2 y3 y7 y8 G) y1 y2 y3 y7 y8 G
theorem l2 P:LQ k1 (L2 P) (B6 P):=fun ⟨_,_,_,_,_,_⟩ _ ⟨I,μ,h0,hI⟩=>⟨apT _ I,apT _ μ,h0,fun ⟨_,_,_,_,_,_⟩ _ h=>hI _ _ _ _ _ _  h⟩
abbrev k2:Sk:=[(1,.v),(2,.v),(3,.x),(7,J)]
def B7 (P:PT):Y k2:=fun x1 x2 x3 x7 H=>
  L2 P x1 x2 x3 x7 0 H
abbrev k3:Sk:=[(1,.v),(2,.v),(3,.x)]
def o8:=O 244
def B8 (P:PT):Y k3:=fun x1 x2 x3 H=>
  li H x3 0 (fun v1=>ld1 H x3 1 (fun v2=>(A 89 [x2] H (fun v3 H4=>(li H4 x3 0 (fun v6=>ld1 H4 x3 1 (fun v7=>((agg ⟨[(I v6),v7]⟩)=(agg ⟨[(I v1),v2]⟩))∧(H4=H4))))∧(newK H4 [(I (-1))] 2 (fun b8 H9=>apK T0 2 H9 v3 (slice (some ⟨b8,0,none⟩) 1 (1+1)) (fun v10 H11=>(li H11 x3 0 (fun v12=>ld1 H11 x3 1 (fun v13=>((agg ⟨[(I v12),v13]⟩)=(agg ⟨[(I v1),v2]⟩))∧(H11=H11))))∧(A 186 [(agg ⟨[(I v1),v2]⟩),x1,v10] H11 (fun v14 H15=>asB v14 (fun v16=>P (bool v16) H15))))))))∧(newK H [(I (-1))] 2 (fun b17 H18=>A 89 [x2] H18 (fun v19 H20=>(li H20 x3 0 (fun v22=>ld1 H20 x3 1 (fun v23=>((agg ⟨[(I v22),v23]⟩)=(agg ⟨[(I v1),v2]⟩))∧(H20=H20))))∧(apK T0 2 H20 v19 (slice (some ⟨b17,0,none⟩) 1 (1+1)) (fun v24 H25=>(li H25 x3 0 (fun v26=>ld1 H25 x3 1 (fun v27=>((agg ⟨[(I v26),v27]⟩)=(agg ⟨[(I v1),v2]⟩))∧(H25=H25))))∧(A 186 [(agg ⟨[(I v1),v2]⟩),x1,v24] H25 (fun v28 H29=>asB v28 (fun v30=>P (bool v30) H29))))))))))
theorem q8 (P:PT):QT Tryz.prog T0 51 o8 (.op 0 [] (.op 1 [] (.op 2 [] (.alt (.op 3 [0] (.op 4 [] (.op 5 [0] (.op 6 [] (.op 7 [] .done))))) (.op 4 [] (.op 3 [0] (.op 5 [0] (.op 6 [] (.op 7 [] .done))))))))) (ret P) k3 (B8 P):=fun _ _ _ _ _  => by kernel_rfl
def B9 (P:PT):Y k2:=fun x1 x2 x3 x7 H=>
  idxK x1 x7 1 (fun b1 o2=>ld1 H b1 o2 (fun v4=>asB v4 (fun v3=>pif v3 (B8 P x1 x2 x3 H) (B7 P x1 x2 x3 x7 H))))
def B10 (P:PT):Y k0:=fun H=>
  P (bool true) H
def B11 (P:PT):Y k2:=fun x1 x2 x3 x7 H=>
  lenK x2 (fun n1=>ld1 H x3 1 (fun v2=>lenK v2 (fun n3=>pif (((n1:Int):Int)==(n3:Int)) (B10 P H) (B9 P x1 x2 x3 x7 H))))
def B12 (P:PT):Y k3:=fun x1 x2 x3 H=>
  lenK x2 (fun n1=>B11 P x1 x2 x3 (n1:Int) H)
abbrev k4:Sk:=[(0,.g [.i,.v]),(1,.v),(2,.v)]
def B13 (P:PT):Y k4:=fun x0a x0b x1 x2 H=>
  newK H [(I x0a),x0b] 31 (fun b1 H2=>B12 P x1 x2 b1 H2)
def code:Code:=(.seq (R 0 2) (.seq (R 1 6) (.seq (.seq (R 2 28) (.cond (.tmp 16) (.seq (R 3 116) .ret) .skip)) (.seq (.seq (R 4 60) (.cond (.tmp 20) (.seq (.region 5 ⟨o8⟩ true) .ret) .skip)) (.seq (.seq (R 6 124) (.block 0 (.loop (.seq (.seq (R 7 2000) (.cond (.tmp 29) .skip (.exit 0))) (.seq (.block 1 (.seq (.region 9 ⟨o5⟩ true) (.cond (.tmp 50) (.seq (R 10 32036) .ret) .skip))) (R 8 2003)))))) (.seq (R 11 126) .ret))))))
theorem body:Tryz.f186.body=some code:=by kernel_rfl
theorem main P:Z 51 k4 (B13 P) code (ret P):=
  (r_seq (b (E k3 (B12 P))) (r_seq (b (E k2 (B11 P))) (r_seq (r_seq (b (cnd 16 (E k0 (B10 P)) (E k2 (B9 P)))) (r_cond rfl (r_seq (b (ret P)) r_ret) r_skip)) (r_seq (r_seq (b (cnd 20 (E k3 (B8 P)) (E k2 (B7 P)))) (r_cond rfl (r_seq (rT T0_ok mixed (.op 0 [] (.op 1 [] (.op 2 [] (.alt (.op 3 [0] (.op 4 [] (.op 5 [0] (.op 6 [] (.op 7 [] .done))))) (.op 4 [] (.op 3 [0] (.op 5 [0] (.op 6 [] (.op 7 [] .done))))))))) (by kernel_rfl) (q8 P)) r_ret) r_skip)) (r_seq (r_seq (b (E k1 (L2 P))) (r_block (rL (l2 P) (fun N2=>(r_seq (r_seq (b (cnd 29 (E k1 (B5 P N2)) (E k0 (B1 P)))) (r_cond rfl r_skip (r_exit (fun _ _ h=>h)))) (r_seq (r_block (r_seq (rT T0_ok mixed (.op 0 [] (.op 1 [] (.op 3 [] (.op 6 [] (.op 7 [] (.alt (.op 2 [0] (.op 4 [] (.op 5 [0] (.op 8 [] (.op 9 [] (.op 10 [] (.op 11 [] (.op 12 [] (.op 14 [] (.alt (.op 13 [10] (.op 15 [] (.op 16 [10] (.op 17 [] (.op 18 [] .done))))) (.op 15 [] (.op 13 [10] (.op 16 [10] (.op 17 [] (.op 18 [] .done))))))))))))))) (.op 4 [] (.op 2 [0] (.op 5 [0] (.op 8 [] (.op 9 [] (.op 10 [] (.op 11 [] (.op 12 [] (.op 14 [] (.alt (.op 13 [10] (.op 15 [] (.op 16 [10] (.op 17 [] (.op 18 [] .done))))) (.op 15 [] (.op 13 [10] (.op 16 [10] (.op 17 [] (.op 18 [] .done))))))))))))))))))))) (by kernel_rfl) (q5 P N2)) (r_cond rfl (r_seq (b (ret P)) r_ret) r_skip))) (b (E k1 N2)))))))) (r_seq (b (ret P)) r_ret))))))
theorem ac (P:PT) (x0a:Int) (x0b x1 x2:Value) (H:AHeap) (h:B13 P x0a x0b x1 x2 H):A 186 [(agg ⟨[(I x0a),x0b]⟩),x1,x2] H P:=
  r_fn T0_ok (c:=code) (n:=51) Tryz.func186 body (by kernel_rfl) (main P) (En_mk (x0a,x0b,x1,x2,()) (by kernel_rfl) ⟨by kernel_rfl,by kernel_rfl,by kernel_rfl,trivial⟩ h)

end F186
namespace F187
abbrev E:=En 19
def O (k:Nat):=ob Tryz.f187 (pth k)
abbrev R (i k:Nat):Code:=.region i ⟨O k⟩ false
def ret (P:PT):EP:=retE T0 19 Tryz.f187 P
abbrev k0:Sk:=[]
def B1 (P:PT):Y k0:=fun H=>
  P (I (-1)) H
abbrev k1:Sk:=[(0,.v),(1,.v),(7,J),(8,J)]
def B3 (P:PT) (N2:Y k1):Y k1:=fun x0 x1 x7 x8 H=>
  N2 x0 x1 x7 (i64.wrap (x8+1)) H
abbrev k2:Sk:=[(5,J)]
def B4 (P:PT) (N2:Y k1):Y k2:=fun x5 H=>
  P (I x5) H
abbrev k3:Sk:=[(0,.v),(1,.v),(5,J),(7,J),(8,J)]
def B5 (P:PT) (N2:Y k1):Y k3:=fun x0 x1 x5 x7 x8 H=>
  idxK x0 x5 1 (fun b1 o2=>li H b1 o2 (fun v3=>callV Tryz.prog T0 x1 [(I v3)] H (fun v4 H5=>asB v4 (fun v6=>pif v6 (B4 P N2 x5 H5) (B3 P N2 x0 x1 x7 x8 H5)))))
def B6 (P:PT) (N2:Y k1):Y k1:=fun x0 x1 x7 x8 H=>
  B5 P N2 x0 x1 x8 x7 x8 H
def B7 (P:PT) (N2:Y k1):Y k1:=fun x0 x1 x7 x8 H=>
  pif (decide ((x8:Int)<x7)) (B6 P N2 x0 x1 x7 x8 H) (B1 P H)
def L2 (P:PT):Y k1:=fun x0 x1 x7 x8 H=>
  ∃ (I:Y k1) (μ:NTy k1 (AHeap→Nat)),I x0 x1 x7 x8 H∧∀ y0 y1 y7 y8 G,I y0 y1 y7 y8 G→B7 P (fun z0 z1 z7 z8 G'=>I z0 z1 z7 z8 G'∧μ z0 z1 z7 z8 G'<μ y0 y1 y7 y8 G) y0 y1 y7 y8 G
theorem l2 P:LQ k1 (L2 P) (B7 P):=fun ⟨_,_,_,_,_⟩ _ ⟨I,μ,h0,hI⟩=>⟨apT _ I,apT _ μ,h0,fun ⟨_,_,_,_,_⟩ _ h=>hI _ _ _ _ _  h⟩
abbrev k4:Sk:=[(0,.v),(1,.v)]
def B8 (P:PT):Y k4:=fun x0 x1 H=>
  lenK x0 (fun n1=>L2 P x0 x1 (n1:Int) 0 H)
def B9 (P:PT):Y k4:=fun x0 x1 H=>
  B8 P x0 x1 H
def code:Code:=(.seq (R 0 2) (.seq (.seq (R 1 12) (.block 0 (.loop (.seq (R 2 104) (.seq (.cond (.tmp 9) .skip (.exit 0)) (.seq (.block 1 (.seq (R 3 1688) (.seq (R 4 3378) (.cond (.tmp 16) (.seq (R 5 13516) .ret) .skip)))) (R 6 423))))))) (.seq (R 7 14) .ret)))
theorem body:Tryz.f187.body=some code:=by kernel_rfl
theorem main P:Z 19 k4 (B9 P) code (ret P):=
  (r_seq (b (E k4 (B8 P))) (r_seq (r_seq (b (E k1 (L2 P))) (r_block (rL (l2 P) (fun N2=>(r_seq (b (cnd 9 (E k1 (B6 P N2)) (E k0 (B1 P)))) (r_seq (r_cond rfl r_skip (r_exit (fun _ _ h=>h))) (r_seq (r_block (r_seq (b (E k3 (B5 P N2))) (r_seq (b (cnd 16 (E k2 (B4 P N2)) (E k1 (B3 P N2)))) (r_cond rfl (r_seq (b (ret P)) r_ret) r_skip)))) (b (E k1 N2))))))))) (r_seq (b (ret P)) r_ret)))
theorem ac (P:PT) (x0 x1:Value) (H:AHeap) (h:B9 P x0 x1 H):A 187 [x0,x1] H P:=
  r_fn T0_ok (c:=code) (n:=19) Tryz.func187 body (by kernel_rfl) (main P) (En_mk (x0,x1,()) (by kernel_rfl) ⟨by kernel_rfl,by kernel_rfl,trivial⟩ h)

end F187
namespace F188
abbrev E:=En 2
def O (k:Nat):=ob Tryz.f188 (pth k)
abbrev R (i k:Nat):Code:=.region i ⟨O k⟩ false
def ret (P:PT):EP:=retE T0 2 Tryz.f188 P
abbrev k0:Sk:=[]
def B1 (P:PT):Y k0:=fun H=>
  newK H [(string (⟨#[116,104,101,116,97]⟩)),(string (⟨#[107,52]⟩)),(string (⟨#[107,51,51]⟩)),(string (⟨#[112,114,105,115,109]⟩)),(string (⟨#[99,117,98,101]⟩)),(string (⟨#[112,101,116,101,114,115,101,110]⟩)),(string (⟨#[116,105,101,116,122,101]⟩)),(string (⟨#[102,108,111,119,101,114,53]⟩)),(string (⟨#[98,114,105,100,103,101]⟩))] 9 (fun b1 H2=>P (slice (some ⟨b1,0,none⟩) 9 (9+1)) H2)
def B2 (P:PT):Y k0:=fun H=>
  B1 P H
def code:Code:=(.seq (R 0 2) (.seq (R 1 6) .ret))
theorem body:Tryz.f188.body=some code:=by kernel_rfl
theorem main P:Z 2 k0 (B2 P) code (ret P):=
  (r_seq (b (E k0 (B1 P))) (r_seq (b (ret P)) r_ret))
theorem ac (P:PT) (H:AHeap) (h:B2 P H):A 188 [] H P:=
  r_fn T0_ok (c:=code) (n:=2) Tryz.func188 body (by kernel_rfl) (main P) (En_mk (()) (by kernel_rfl) trivial h)

end F188
namespace F189
abbrev E:=En 47
def O (k:Nat):=ob Tryz.f189 (pth k)
abbrev R (i k:Nat):Code:=.region i ⟨O k⟩ false
def ret (P:PT):EP:=retE T0 47 Tryz.f189 P
abbrev k0:Sk:=[(2,.x),(3,.x),(4,.x),(5,.v)]
def B1 (P:PT):Y k0:=fun x2 x3 x4 x5 H=>
  li H x2 0 (fun v1=>li H x3 0 (fun v2=>A 60 [(I (i64.wrap (v1+v2))),x5] H (fun v3 H4=>agg2 v3 (fun v5 v6=>asI .i64 v5 (fun v7=>stK H4 x4 0 [(I v7),v6] (fun H9=>li H9 x4 0 (fun v10=>ld1 H9 x4 1 (fun v11=>P (agg ⟨[(I v10),v11]⟩) H9))))))))
abbrev k1:Sk:=[(2,.x),(3,.x),(4,.x),(5,.v),(6,J)]
def o3:=O 467
def B3 (P:PT) (N2:Y k1):Y k1:=fun x2 x3 x4 x5 x6 H=>
  N2 x2 x3 x4 x5 (i64.wrap (x6+1)) H
def o4:=O 932
def B4 (P:PT) (N2:Y k1):Y k1:=fun x2 x3 x4 x5 x6 H=>
  ld1 H x3 1 (fun v1=>idxK v1 x6 2 (fun b2 o3=>li H b2 o3 (fun v4=>li H x2 0 (fun v5=>ld1 H x3 1 (fun v6=>idxK v6 x6 2 (fun b7 o8=>li H b7 (o8+1) (fun v9=>li H x2 0 (fun v10=>newK H [(I (i64.wrap (v4+v5))),(I (i64.wrap (v9+v10)))] 28 (fun b11 H12=>apK T0 28 H12 x5 (slice (some ⟨b11,0,none⟩) 1 (1+1)) (fun v13 H14=>B3 P N2 x2 x3 x4 v13 x6 H14))))))))))
theorem q4 (P:PT) (N2:Y k1):QD Tryz.prog T0 47 o4 [(0,false),(1,false),(2,false),(3,false),(4,false),(5,false),(6,false),(7,false),(8,false),(9,false),(10,false),(11,false),(12,false),(13,false),(14,false),(15,false),(16,false),(17,false),(18,false),(19,false),(20,false),(21,false),(22,false)] (En 47 k1 (B3 P N2)) k1 (B4 P N2):=fun _ _ _ _ _ _ _  => by kernel_rfl
def B5 (P:PT) (N2:Y k1):Y k1:=fun x2 x3 x4 x5 x6 H=>
  ld1 H x3 1 (fun v1=>lenK v1 (fun n2=>pif (decide ((x6:Int)<(n2:Int))) (B4 P N2 x2 x3 x4 x5 x6 H) (B1 P x2 x3 x4 x5 H)))
def L2 (P:PT):Y k1:=fun x2 x3 x4 x5 x6 H=>
  ∃ (I:Y k1) (μ:NTy k1 (AHeap→Nat)),I x2 x3 x4 x5 x6 H∧∀ y2 y3 y4 y5 y6 G,I y2 y3 y4 y5 y6 G→B5 P (fun z2 z3 z4 z5 z6 G'=>I z2 z3 z4 z5 z6 G'∧μ z2 z3 z4 z5 z6 G'<μ y2 y3 y4 y5 y6 G) y2 y3 y4 y5 y6 G
theorem l2 P:LQ k1 (L2 P) (B5 P):=fun ⟨_,_,_,_,_,_⟩ _ ⟨I,μ,h0,hI⟩=>⟨apT _ I,apT _ μ,h0,fun ⟨_,_,_,_,_,_⟩ _ h=>hI _ _ _ _ _ _  h⟩
def B6 (P:PT):Y k0:=fun x2 x3 x4 x5 H=>
  L2 P x2 x3 x4 x5 0 H
abbrev k2:Sk:=[(2,.x),(3,.x),(4,.x)]
def B7 (P:PT):Y k2:=fun x2 x3 x4 H=>
  newK H [] 28 (fun b1 H2=>ld1 H2 x2 1 (fun v3=>apK T0 28 H2 (slice (some ⟨b1,0,none⟩) 0 (0+1)) v3 (fun v4 H5=>B6 P x2 x3 x4 v4 H5)))
abbrev k3:Sk:=[(0,.g [.i,.v]),(1,.g [.i,.v])]
def o8:=O 2
def B8 (P:PT):Y k3:=fun x0a x0b x1a x1b H=>
  newK H [(I x0a),x0b] 31 (fun b1 H2=>newK H2 [(I x1a),x1b] 31 (fun b3 H4=>newK H4 [(I 0),(slice none 0 0)] 31 (fun b5 H6=>B7 P b1 b3 b5 H6)))
def code:Code:=(.seq (R 0 2) (.seq (R 1 6) (.seq (.seq (R 2 28) (.block 0 (.loop (.seq (.seq (R 3 464) (.cond (.tmp 15) .skip (.exit 0))) (.seq (.block 1 (.region 5 ⟨o4⟩ true)) (R 4 467)))))) (.seq (R 6 30) .ret))))
theorem body:Tryz.f189.body=some code:=by kernel_rfl
theorem main P:Z 47 k3 (B8 P) code (ret P):=
  (r_seq (b (E k2 (B7 P))) (r_seq (b (E k0 (B6 P))) (r_seq (r_seq (b (E k1 (L2 P))) (r_block (rL (l2 P) (fun N2=>(r_seq (r_seq (b (cnd 15 (E k1 (B4 P N2)) (E k0 (B1 P)))) (r_cond rfl r_skip (r_exit (fun _ _ h=>h)))) (r_seq (r_block (rD T0_ok mixed [(0,false),(1,false),(2,false),(3,false),(4,false),(5,false),(6,false),(7,false),(8,false),(9,false),(10,false),(11,false),(12,false),(13,false),(14,false),(15,false),(16,false),(17,false),(18,false),(19,false),(20,false),(21,false),(22,false)] (by kernel_rfl) (q4 P N2))) (b (E k1 N2)))))))) (r_seq (b (ret P)) r_ret))))
theorem ac (P:PT) (x0a:Int) (x0b:Value) (x1a:Int) (x1b:Value) (H:AHeap) (h:B8 P x0a x0b x1a x1b H):A 189 [(agg ⟨[(I x0a),x0b]⟩),(agg ⟨[(I x1a),x1b]⟩)] H P:=
  r_fn T0_ok (c:=code) (n:=47) Tryz.func189 body (by kernel_rfl) (main P) (En_mk (x0a,x0b,x1a,x1b,()) (by kernel_rfl) ⟨by kernel_rfl,by kernel_rfl,trivial⟩ h)

end F189
namespace F190
abbrev E:=En 9
def O (k:Nat):=ob Tryz.f190 (pth k)
abbrev R (i k:Nat):Code:=.region i ⟨O k⟩ false
def ret (P:PT):EP:=retE T0 9 Tryz.f190 P
abbrev k0:Sk:=[(0,.v),(1,.v)]
def B1 (P:PT):Y k0:=fun x0 x1 H=>
  A 210 [x0,x1] H (fun v1 H2=>asI .i64 v1 (fun v3=>P (bool (decide ((v3:Int)≥0))) H2))
def B2 (P:PT):Y k0:=fun x0 x1 H=>
  B1 P x0 x1 H
def code:Code:=(.seq (R 0 2) (.seq (R 1 6) .ret))
theorem body:Tryz.f190.body=some code:=by kernel_rfl
theorem main P:Z 9 k0 (B2 P) code (ret P):=
  (r_seq (b (E k0 (B1 P))) (r_seq (b (ret P)) r_ret))
theorem ac (P:PT) (x0 x1:Value) (H:AHeap) (h:B2 P x0 x1 H):A 190 [x0,x1] H P:=
  r_fn T0_ok (c:=code) (n:=9) Tryz.func190 body (by kernel_rfl) (main P) (En_mk (x0,x1,()) (by kernel_rfl) ⟨by kernel_rfl,by kernel_rfl,trivial⟩ h)

end F190
namespace F191
abbrev E:=En 7
def O (k:Nat):=ob Tryz.f191 (pth k)
abbrev R (i k:Nat):Code:=.region i ⟨O k⟩ false
def ret (P:PT):EP:=retE T0 7 Tryz.f191 P
abbrev k0:Sk:=[(0,.i .u64),(1,.v)]
def B1 (P:PT):Y k0:=fun x0 x1 H=>
  asP x1 (fun b1 o2=>li H b1 o2 (fun v3=>A 144 [(int .u64 x0),(I v3)] H (fun v4 H5=>asB v4 (fun v6=>P (bool v6) H5))))
def o2:=O 2
def B2 (P:PT):Y k0:=fun x0 x1 H=>
  B1 P x0 x1 H
def code:Code:=(.seq (R 0 2) (.seq (R 1 6) .ret))
theorem body:Tryz.f191.body=some code:=by kernel_rfl
theorem main P:Z 7 k0 (B2 P) code (ret P):=
  (r_seq (b (E k0 (B1 P))) (r_seq (b (ret P)) r_ret))
theorem ac (P:PT) (x0:Int) (x1:Value) (H:AHeap) (h:B2 P x0 x1 H):A 191 [(int .u64 x0),x1] H P:=
  r_fn T0_ok (c:=code) (n:=7) Tryz.func191 body (by kernel_rfl) (main P) (En_mk (x0,x1,()) (by kernel_rfl) ⟨by kernel_rfl,by kernel_rfl,trivial⟩ h)

end F191
namespace F204
abbrev E:=En 6
def O (k:Nat):=ob Tryz.f204 (pth k)
abbrev R (i k:Nat):Code:=.region i ⟨O k⟩ false
def ret (P:PT):EP:=retE T0 6 Tryz.f204 P
abbrev k0:Sk:=[(0,J)]
def B1 (P:PT):Y k0:=fun x0 H=>
  P (bool ((x0:Int) != x0)) H
def B2 (P:PT):Y k0:=fun x0 H=>
  B1 P x0 H
def code:Code:=(.seq (R 0 2) (.seq (R 1 6) .ret))
theorem body:Tryz.f204.body=some code:=by kernel_rfl
theorem main P:Z 6 k0 (B2 P) code (ret P):=
  (r_seq (b (E k0 (B1 P))) (r_seq (b (ret P)) r_ret))
theorem ac (P:PT) (x0:Int) (H:AHeap) (h:B2 P x0 H):A 204 [(I x0)] H P:=
  r_fn T0_ok (c:=code) (n:=6) Tryz.func204 body (by kernel_rfl) (main P) (En_mk (x0,()) (by kernel_rfl) ⟨by kernel_rfl,trivial⟩ h)

end F204
namespace F205
abbrev E:=En 19
def O (k:Nat):=ob Tryz.f205 (pth k)
abbrev R (i k:Nat):Code:=.region i ⟨O k⟩ false
def ret (P:PT):EP:=retE T0 19 Tryz.f205 P
abbrev k0:Sk:=[]
def B1 (P:PT):Y k0:=fun H=>
  P (I (-1)) H
abbrev k1:Sk:=[(0,.v),(1,.v),(7,J),(8,J)]
def B3 (P:PT) (N2:Y k1):Y k1:=fun x0 x1 x7 x8 H=>
  N2 x0 x1 x7 (i64.wrap (x8+1)) H
abbrev k2:Sk:=[(5,J)]
def B4 (P:PT) (N2:Y k1):Y k2:=fun x5 H=>
  P (I x5) H
abbrev k3:Sk:=[(0,.v),(1,.v),(5,J),(7,J),(8,J)]
def B5 (P:PT) (N2:Y k1):Y k3:=fun x0 x1 x5 x7 x8 H=>
  idxK x0 x5 1 (fun b1 o2=>li H b1 o2 (fun v3=>callV Tryz.prog T0 x1 [(I v3)] H (fun v4 H5=>asB v4 (fun v6=>pif v6 (B4 P N2 x5 H5) (B3 P N2 x0 x1 x7 x8 H5)))))
def B6 (P:PT) (N2:Y k1):Y k1:=fun x0 x1 x7 x8 H=>
  B5 P N2 x0 x1 x8 x7 x8 H
def B7 (P:PT) (N2:Y k1):Y k1:=fun x0 x1 x7 x8 H=>
  pif (decide ((x8:Int)<x7)) (B6 P N2 x0 x1 x7 x8 H) (B1 P H)
def L2 (P:PT):Y k1:=fun x0 x1 x7 x8 H=>
  ∃ (I:Y k1) (μ:NTy k1 (AHeap→Nat)),I x0 x1 x7 x8 H∧∀ y0 y1 y7 y8 G,I y0 y1 y7 y8 G→B7 P (fun z0 z1 z7 z8 G'=>I z0 z1 z7 z8 G'∧μ z0 z1 z7 z8 G'<μ y0 y1 y7 y8 G) y0 y1 y7 y8 G
theorem l2 P:LQ k1 (L2 P) (B7 P):=fun ⟨_,_,_,_,_⟩ _ ⟨I,μ,h0,hI⟩=>⟨apT _ I,apT _ μ,h0,fun ⟨_,_,_,_,_⟩ _ h=>hI _ _ _ _ _  h⟩
abbrev k4:Sk:=[(0,.v),(1,.v)]
def B8 (P:PT):Y k4:=fun x0 x1 H=>
  lenK x0 (fun n1=>L2 P x0 x1 (n1:Int) 0 H)
def B9 (P:PT):Y k4:=fun x0 x1 H=>
  B8 P x0 x1 H
def code:Code:=(.seq (R 0 2) (.seq (.seq (R 1 12) (.block 0 (.loop (.seq (R 2 104) (.seq (.cond (.tmp 9) .skip (.exit 0)) (.seq (.block 1 (.seq (R 3 1688) (.seq (R 4 3378) (.cond (.tmp 16) (.seq (R 5 13516) .ret) .skip)))) (R 6 423))))))) (.seq (R 7 14) .ret)))
theorem body:Tryz.f205.body=some code:=by kernel_rfl
theorem main P:Z 19 k4 (B9 P) code (ret P):=
  (r_seq (b (E k4 (B8 P))) (r_seq (r_seq (b (E k1 (L2 P))) (r_block (rL (l2 P) (fun N2=>(r_seq (b (cnd 9 (E k1 (B6 P N2)) (E k0 (B1 P)))) (r_seq (r_cond rfl r_skip (r_exit (fun _ _ h=>h))) (r_seq (r_block (r_seq (b (E k3 (B5 P N2))) (r_seq (b (cnd 16 (E k2 (B4 P N2)) (E k1 (B3 P N2)))) (r_cond rfl (r_seq (b (ret P)) r_ret) r_skip)))) (b (E k1 N2))))))))) (r_seq (b (ret P)) r_ret)))
theorem ac (P:PT) (x0 x1:Value) (H:AHeap) (h:B9 P x0 x1 H):A 205 [x0,x1] H P:=
  r_fn T0_ok (c:=code) (n:=19) Tryz.func205 body (by kernel_rfl) (main P) (En_mk (x0,x1,()) (by kernel_rfl) ⟨by kernel_rfl,by kernel_rfl,trivial⟩ h)

end F205
namespace F206
abbrev E:=En 72
def O (k:Nat):=ob Tryz.f206 (pth k)
abbrev R (i k:Nat):Code:=.region i ⟨O k⟩ false
def ret (P:PT):EP:=retE T0 72 Tryz.f206 P
abbrev k0:Sk:=[(7,.v)]
def B1 (P:PT):Y k0:=fun x7 H=>
  P x7 H
abbrev k1:Sk:=[(2,.i .u64),(3,.x),(7,.v),(8,.v)]
def o3:=O 979
def B3 (P:PT) (N2:Y k1):Y k1:=fun x2 x3 x7 x8 H=>
  sliceK H 2 x8 (some (I 1)) none 1 (fun v1=>N2 x2 x3 x7 v1 H)
abbrev k2:Sk:=[(2,.i .u64),(3,.x),(7,.v),(8,.v),(30,.v),(31,J),(32,J)]
def o5:=O 125223
def B5 (P:PT) (N2:Y k1) (N4:Y k2):Y k2:=fun x2 x3 x7 x8 x30 x31 x32 H=>
  N4 x2 x3 x7 x8 x30 x31 (i64.wrap (x32+1)) H
abbrev k3:Sk:=[(2,.i .u64),(3,.x),(7,.v),(8,.v),(11,J),(30,.v),(31,J),(32,J)]
def B6 (P:PT) (N2:Y k1) (N4:Y k2):Y k3:=fun x2 x3 x7 x8 x11 x30 x31 x32 H=>
  newK H [(I x11)] 2 (fun b1 H2=>apK T0 2 H2 x8 (slice (some ⟨b1,0,none⟩) 1 (1+1)) (fun v3 H4=>B5 P N2 N4 x2 x3 x7 v3 x30 x31 x32 H4))
def o7:=O 8014236
def B7 (P:PT) (N2:Y k1) (N4:Y k2):Y k3:=fun x2 x3 x7 x8 x11 x30 x31 x32 H=>
  idxK x8 0 1 (fun b1 o2=>li H b1 o2 (fun v3=>idxK x7 v3 1 (fun b4 o5=>li H b4 o5 (fun v6=>idxK x7 x11 1 (fun b7 o8=>stK H b7 o8 [(I (i64.wrap (v6+1)))] (fun H9=>B6 P N2 N4 x2 x3 x7 x8 x11 x30 x31 x32 H9))))))
abbrev k4:Sk:=[(2,.i .u64),(3,.x),(7,.v),(8,.v),(10,J),(11,J),(30,.v),(31,J),(32,J)]
def o8:=O 2003558
def B8 (P:PT) (N2:Y k1) (N4:Y k2):Y k4:=fun x2 x3 x7 x8 x10 x11 x30 x31 x32 H=>
  idxK x7 x11 1 (fun b1 o2=>li H b1 o2 (fun v3=>pif (decide ((v3:Int)<0)) (A 144 [(int .u64 x2),(I x10)] H (fun v4 H5=>asB v4 (fun v6=>pif (!v6) (B7 P N2 N4 x2 x3 x7 x8 x11 x30 x31 x32 H5) (B5 P N2 N4 x2 x3 x7 x8 x30 x31 x32 H5)))) (B5 P N2 N4 x2 x3 x7 x8 x30 x31 x32 H)))
abbrev k5:Sk:=[(2,.i .u64),(3,.x),(7,.v),(8,.v),(10,J),(30,.v),(31,J),(32,J)]
def o9:=O 1001778
def B9 (P:PT) (N2:Y k1) (N4:Y k2):Y k5:=fun x2 x3 x7 x8 x10 x30 x31 x32 H=>
  ld1 H x3 1 (fun v1=>idxK v1 x10 2 (fun b2 o3=>li H b2 o3 (fun v4=>li H b2 (o3+1) (fun v5=>idxK x8 0 1 (fun b6 o7=>li H b6 o7 (fun v8=>A 168 [(agg ⟨[(I v4),(I v5)]⟩),(I v8)] H (fun v9 H10=>asI .i64 v9 (fun v11=>B8 P N2 N4 x2 x3 x7 x8 x10 v11 x30 x31 x32 H10))))))))
theorem q9 (P:PT) (N2:Y k1) (N4:Y k2):QD Tryz.prog T0 72 o9 [(0,false),(1,false),(2,false),(3,false),(4,false),(5,false),(6,false),(7,false),(8,false),(9,false)] (En 72 k4 (B8 P N2 N4)) k5 (B9 P N2 N4):=fun _ _ _ _ _ _ _ _ _ _  => by kernel_rfl
def B10 (P:PT) (N2:Y k1) (N4:Y k2):Y k2:=fun x2 x3 x7 x8 x30 x31 x32 H=>
  idxK x30 x32 1 (fun b1 o2=>li H b1 o2 (fun v3=>B9 P N2 N4 x2 x3 x7 x8 v3 x30 x31 x32 H))
def B11 (P:PT) (N2:Y k1) (N4:Y k2):Y k2:=fun x2 x3 x7 x8 x30 x31 x32 H=>
  pif (decide ((x32:Int)<x31)) (B10 P N2 N4 x2 x3 x7 x8 x30 x31 x32 H) (B3 P N2 x2 x3 x7 x8 H)
def L4 (P:PT) (N2:Y k1):Y k2:=fun x2 x3 x7 x8 x30 x31 x32 H=>
  ∃ (I:Y k2) (μ:NTy k2 (AHeap→Nat)),I x2 x3 x7 x8 x30 x31 x32 H∧∀ y2 y3 y7 y8 y30 y31 y32 G,I y2 y3 y7 y8 y30 y31 y32 G→B11 P N2 (fun z2 z3 z7 z8 z30 z31 z32 G'=>I z2 z3 z7 z8 z30 z31 z32 G'∧μ z2 z3 z7 z8 z30 z31 z32 G'<μ y2 y3 y7 y8 y30 y31 y32 G) y2 y3 y7 y8 y30 y31 y32 G
theorem l4 P N2:LQ k2 (L4 P N2) (B11 P N2):=fun ⟨_,_,_,_,_,_,_,_⟩ _ ⟨I,μ,h0,hI⟩=>⟨apT _ I,apT _ μ,h0,fun ⟨_,_,_,_,_,_,_,_⟩ _ h=>hI _ _ _ _ _ _ _ _  h⟩
def o12:=O 3912
def B12 (P:PT) (N2:Y k1):Y k1:=fun x2 x3 x7 x8 H=>
  li H x3 0 (fun v1=>ld1 H x3 1 (fun v2=>idxK x8 0 1 (fun b3 o4=>li H b3 o4 (fun v5=>A 112 [(agg ⟨[(I v1),v2]⟩),(I v5)] H (fun v6 H7=>lenK v6 (fun n9=>L4 P N2 x2 x3 x7 x8 v6 (n9:Int) 0 H7))))))
theorem q12 (P:PT) (N2:Y k1):QD Tryz.prog T0 72 o12 [(0,false),(1,false),(2,false),(3,false),(6,false),(4,false),(5,false)] (En 72 k2 (L4 P N2)) k1 (B12 P N2):=fun _ _ _ _ _ _  => by kernel_rfl
def B13 (P:PT) (N2:Y k1):Y k1:=fun x2 x3 x7 x8 H=>
  lenK x8 (fun n1=>pif (decide (((n1:Int):Int)>0)) (B12 P N2 x2 x3 x7 x8 H) (B1 P x7 H))
def L2 (P:PT):Y k1:=fun x2 x3 x7 x8 H=>
  ∃ (I:Y k1) (μ:NTy k1 (AHeap→Nat)),I x2 x3 x7 x8 H∧∀ y2 y3 y7 y8 G,I y2 y3 y7 y8 G→B13 P (fun z2 z3 z7 z8 G'=>I z2 z3 z7 z8 G'∧μ z2 z3 z7 z8 G'<μ y2 y3 y7 y8 G) y2 y3 y7 y8 G
theorem l2 P:LQ k1 (L2 P) (B13 P):=fun ⟨_,_,_,_,_⟩ _ ⟨I,μ,h0,hI⟩=>⟨apT _ I,apT _ μ,h0,fun ⟨_,_,_,_,_⟩ _ h=>hI _ _ _ _ _  h⟩
abbrev k6:Sk:=[(1,J),(2,.i .u64),(3,.x),(7,.v)]
def B14 (P:PT):Y k6:=fun x1 x2 x3 x7 H=>
  newK H [(I x1)] 2 (fun b1 H2=>L2 P x2 x3 x7 (slice (some ⟨b1,0,none⟩) 1 (1+1)) H2)
def B15 (P:PT):Y k6:=fun x1 x2 x3 x7 H=>
  idxK x7 x1 1 (fun b1 o2=>stK H b1 o2 [(I 0)] (fun H3=>B14 P x1 x2 x3 x7 H3))
abbrev k7:Sk:=[(1,J),(2,.i .u64),(3,.x)]
def B16 (P:PT):Y k7:=fun x1 x2 x3 H=>
  newK H [(I (-1))] 2 (fun b1 H2=>li H2 x3 0 (fun v3=>A 177 [(slice (some ⟨b1,0,none⟩) 1 (1+1)),(I v3)] H2 (fun v4 H5=>B15 P x1 x2 x3 v4 H5)))
abbrev k8:Sk:=[(0,.g [.i,.v]),(1,J),(2,.i .u64)]
def B17 (P:PT):Y k8:=fun x0a x0b x1 x2 H=>
  newK H [(I x0a),x0b] 31 (fun b1 H2=>B16 P x1 x2 b1 H2)
def code:Code:=(.seq (R 0 2) (.seq (R 1 6) (.seq (R 2 14) (.seq (.seq (R 3 60) (.block 0 (.loop (.seq (.seq (R 4 976) (.cond (.tmp 23) .skip (.exit 0))) (.seq (.block 1 (.seq (.region 6 ⟨o12⟩ true) (.block 2 (.loop (.seq (R 7 31304) (.seq (.cond (.tmp 33) .skip (.exit 2)) (.seq (.block 3 (.seq (R 8 500888) (.seq (.region 9 ⟨o9⟩ true) (.seq (R 10 2003558) (.cond (.tmp 55) (.seq (R 11 8014236) (R 12 8014237)) .skip))))) (R 13 125223)))))))) (R 5 979)))))) (.seq (R 14 62) .ret)))))
theorem body:Tryz.f206.body=some code:=by kernel_rfl
theorem main P:Z 72 k8 (B17 P) code (ret P):=
  (r_seq (b (E k7 (B16 P))) (r_seq (b (E k6 (B15 P))) (r_seq (b (E k6 (B14 P))) (r_seq (r_seq (b (E k1 (L2 P))) (r_block (rL (l2 P) (fun N2=>(r_seq (r_seq (b (cnd 23 (E k1 (B12 P N2)) (E k0 (B1 P)))) (r_cond rfl r_skip (r_exit (fun _ _ h=>h)))) (r_seq (r_block (r_seq (rD T0_ok mixed [(0,false),(1,false),(2,false),(3,false),(6,false),(4,false),(5,false)] (by kernel_rfl) (q12 P N2)) (r_block (rL (l4 P N2) (fun N4=>(r_seq (b (cnd 33 (E k2 (B10 P N2 N4)) (E k1 (B3 P N2)))) (r_seq (r_cond rfl r_skip (r_exit (fun _ _ h=>h))) (r_seq (r_block (r_seq (b (E k5 (B9 P N2 N4))) (r_seq (rD T0_ok mixed [(0,false),(1,false),(2,false),(3,false),(4,false),(5,false),(6,false),(7,false),(8,false),(9,false)] (by kernel_rfl) (q9 P N2 N4)) (r_seq (b (cnd 55 (E k3 (B7 P N2 N4)) (E k2 (B5 P N2 N4)))) (r_cond rfl (r_seq (b (E k3 (B6 P N2 N4))) (b (E k2 (B5 P N2 N4)))) r_skip))))) (b (E k2 N4)))))))))) (b (E k1 N2)))))))) (r_seq (b (ret P)) r_ret)))))
theorem ac (P:PT) (x0a:Int) (x0b:Value) (x1 x2:Int) (H:AHeap) (h:B17 P x0a x0b x1 x2 H):A 206 [(agg ⟨[(I x0a),x0b]⟩),(I x1),(int .u64 x2)] H P:=
  r_fn T0_ok (c:=code) (n:=72) Tryz.func206 body (by kernel_rfl) (main P) (En_mk (x0a,x0b,x1,x2,()) (by kernel_rfl) ⟨by kernel_rfl,by kernel_rfl,by kernel_rfl,trivial⟩ h)

end F206
namespace F207
abbrev E:=En 30
def O (k:Nat):=ob Tryz.f207 (pth k)
abbrev R (i k:Nat):Code:=.region i ⟨O k⟩ false
def ret (P:PT):EP:=retE T0 30 Tryz.f207 P
abbrev k0:Sk:=[(8,.i .u64),(9,.i .u64)]
def B1 (P:PT):Y k0:=fun x8 x9 H=>
  P (tuple ⟨[(int .u64 x8),(int .u64 x9)]⟩) H
abbrev k1:Sk:=[(0,.i .u64),(1,.i .u64)]
def B2 (P:PT):Y k1:=fun x0 x1 H=>
  A 225 [(int .u64 x0),(int .u64 x1)] H (fun v1 H2=>tup2 v1 (fun v3 v4=>asI .u64 v3 (fun v5=>asI .u64 v4 (fun v6=>B1 P v5 v6 H2))))
def B3 (P:PT):Y k1:=fun x0 x1 H=>
  B2 P x0 x1 H
def code:Code:=(.seq (R 0 2) (.seq (.cond (.const (.bool false)) (codeAt (bodyOf Tryz.f207) [.r,.l,.l]) .skip) (.seq (R 3 14) (.seq (R 4 30) .ret))))
theorem body:Tryz.f207.body=some code:=by kernel_rfl
theorem main P:Z 30 k1 (B3 P) code (ret P):=
  (r_seq (b (E k1 (B2 P))) (r_seq (r_condF r_skip) (r_seq (b (E k0 (B1 P))) (r_seq (b (ret P)) r_ret))))
theorem ac (P:PT) (x0 x1:Int) (H:AHeap) (h:B3 P x0 x1 H):A 207 [(int .u64 x0),(int .u64 x1)] H P:=
  r_fn T0_ok (c:=code) (n:=30) Tryz.func207 body (by kernel_rfl) (main P) (En_mk (x0,x1,()) (by kernel_rfl) ⟨by kernel_rfl,by kernel_rfl,trivial⟩ h)

end F207
namespace F208
abbrev E:=En 41
def O (k:Nat):=ob Tryz.f208 (pth k)
abbrev R (i k:Nat):Code:=.region i ⟨O k⟩ false
def ret (P:PT):EP:=retE T0 41 Tryz.f208 P
abbrev k0:Sk:=[(0,.v),(1,J)]
def B1 (P:PT):Y k0:=fun x0 x1 H=>
  nilK x0 (fun v1=>asP v1 (fun b2 o3=>ld1 H b2 (o3+3) (fun v4=>idxK v4 x1 1 (fun b5 o6=>stK H b5 o6 [(I (-1))] (fun H7=>P (tuple ⟨[]⟩) H7)))))
abbrev k1:Sk:=[(0,.v),(1,J),(13,.g [.i,.i]),(14,J)]
def o3:=O 167
def B3 (P:PT) (N2:Y k1):Y k1:=fun x0 x1 x13a x13b x14 H=>
  N2 x0 x1 x13a x13b (i64.wrap (x14+1)) H
abbrev k2:Sk:=[(0,.v),(1,J),(5,J),(13,.g [.i,.i]),(14,J)]
def o4:=O 665
def B4 (P:PT) (N2:Y k1):Y k2:=fun x0 x1 x5 x13a x13b x14 H=>
  nilK x0 (fun v1=>asP v1 (fun b2 o3=>ld1 H b2 (o3+4) (fun v4=>idxK v4 x5 1 (fun b5 o6=>ldI .u64 H b5 o6 (fun v7=>nilK x0 (fun v8=>asP v8 (fun b9 o10=>ld1 H b9 (o10+3) (fun v11=>idxK v11 x1 1 (fun b12 o13=>li H b12 o13 (fun v14=>((0:Int)≤v14)∧(idxK v4 x5 1 (fun b15 o16=>stK H b15 o16 [(int .u64 (u64.wrap (BitVec.ofInt 64 v7&&&~~~(BitVec.ofInt 64 (u64.wrap (1*2^(min (Int.toNat v14) 64))))).toNat))] (fun H17=>B3 P N2 x0 x1 x13a x13b x14 H17)))))))))))))
theorem q4 (P:PT) (N2:Y k1):QD Tryz.prog T0 41 o4 [(0,false),(1,false),(2,false),(3,false),(4,false),(5,false),(6,false),(7,false),(8,false),(9,false),(10,false),(11,false),(12,false),(13,false),(14,false),(15,false),(16,false),(17,false)] (En 41 k1 (B3 P N2)) k2 (B4 P N2):=fun _ _ _ _ _ _ _ _  => by kernel_rfl
def B5 (P:PT) (N2:Y k1):Y k1:=fun x0 x1 x13a x13b x14 H=>
  bndK x14 2 (atK [(I x13a),(I x13b)] (Int.toNat x14*1) (fun v1=>asI .i64 v1 (fun v2=>B4 P N2 x0 x1 v2 x13a x13b x14 H)))
def o6:=O 40
def B6 (P:PT) (N2:Y k1):Y k1:=fun x0 x1 x13a x13b x14 H=>
  pif (decide ((x14:Int)<2)) (B5 P N2 x0 x1 x13a x13b x14 H) (B1 P x0 x1 H)
def L2 (P:PT):Y k1:=fun x0 x1 x13a x13b x14 H=>
  ∃ (I:Y k1) (μ:NTy k1 (AHeap→Nat)),I x0 x1 x13a x13b x14 H∧∀ y0 y1 y13a y13b y14 G,I y0 y1 y13a y13b y14 G→B6 P (fun z0 z1 z13a z13b z14 G'=>I z0 z1 z13a z13b z14 G'∧μ z0 z1 z13a z13b z14 G'<μ y0 y1 y13a y13b y14 G) y0 y1 y13a y13b y14 G
theorem l2 P:LQ k1 (L2 P) (B6 P):=fun ⟨_,_,_,_,_,_⟩ _ ⟨I,μ,h0,hI⟩=>⟨apT _ I,apT _ μ,h0,fun ⟨_,_,_,_,_,_⟩ _ h=>hI _ _ _ _ _ _  h⟩
def B7 (P:PT):Y k0:=fun x0 x1 H=>
  nilK x0 (fun v1=>asP v1 (fun b2 o3=>ld1 H b2 (o3+1) (fun v4=>idxK v4 x1 2 (fun b5 o6=>li H b5 o6 (fun v7=>li H b5 (o6+1) (fun v8=>L2 P x0 x1 v7 v8 0 H))))))
def code:Code:=(.seq (.seq (R 0 4) (.block 0 (.loop (.seq (R 1 40) (.seq (.cond (.tmp 15) .skip (.exit 0)) (.seq (.block 1 (.seq (R 2 664) (.region 3 ⟨o4⟩ true))) (R 4 167))))))) (R 5 3))
theorem body:Tryz.f208.body=some code:=by kernel_rfl
theorem main P:Z 41 k0 (B7 P) code (ret P):=
  (r_seq (r_seq (b (E k1 (L2 P))) (r_block (rL (l2 P) (fun N2=>(r_seq (b (cnd 15 (E k1 (B5 P N2)) (E k0 (B1 P)))) (r_seq (r_cond rfl r_skip (r_exit (fun _ _ h=>h))) (r_seq (r_block (r_seq (b (E k2 (B4 P N2))) (rD T0_ok mixed [(0,false),(1,false),(2,false),(3,false),(4,false),(5,false),(6,false),(7,false),(8,false),(9,false),(10,false),(11,false),(12,false),(13,false),(14,false),(15,false),(16,false),(17,false)] (by kernel_rfl) (q4 P N2)))) (b (E k1 N2))))))))) (b (ret P)))
theorem ac (P:PT) (x0:Value) (x1:Int) (H:AHeap) (h:B7 P x0 x1 H):A 208 [x0,(I x1)] H P:=
  r_fn T0_ok (c:=code) (n:=41) Tryz.func208 body (by kernel_rfl) (main P) (En_mk (x0,x1,()) (by kernel_rfl) ⟨by kernel_rfl,by kernel_rfl,trivial⟩ h)

end F208
namespace F209
abbrev E:=En 29
def O (k:Nat):=ob Tryz.f209 (pth k)
abbrev R (i k:Nat):Code:=.region i ⟨O k⟩ false
def ret (P:PT):EP:=retE T0 29 Tryz.f209 P
abbrev k0:Sk:=[(0,.v)]
def B1 (P:PT):Y k0:=fun x0 H=>
  P x0 H
abbrev k1:Sk:=[(0,.v),(1,.v),(5,J)]
def B3 (P:PT) (N2:Y k1):Y k1:=fun x0 x1 x5 H=>
  N2 x0 x1 (i64.wrap (x5+1)) H
def o4:=O 420
def B4 (P:PT) (N2:Y k1):Y k1:=fun x0 x1 x5 H=>
  idxK x1 x5 1 (fun b1 o2=>li H b1 o2 (fun v3=>lenK x1 (fun n4=>nzK (n4:Int) (idxK x1 (Int.tmod (i64.wrap (x5+1)) (n4:Int)) 1 (fun b5 o6=>li H b5 o6 (fun v7=>newK H [(I v3),(I v7)] 28 (fun b8 H9=>apK T0 28 H9 x0 (slice (some ⟨b8,0,none⟩) 1 (1+1)) (fun v10 H11=>B3 P N2 v10 x1 x5 H11))))))))
theorem q4 (P:PT) (N2:Y k1):QD Tryz.prog T0 29 o4 [(0,false),(1,false),(2,false),(3,false),(4,false),(5,false),(6,false),(7,false),(8,false),(9,false),(10,false),(11,false),(12,false),(13,false),(14,false),(15,false),(16,false)] (En 29 k1 (B3 P N2)) k1 (B4 P N2):=fun _ _ _ _ _  => by kernel_rfl
def B5 (P:PT) (N2:Y k1):Y k1:=fun x0 x1 x5 H=>
  lenK x1 (fun n1=>pif (decide ((x5:Int)<(n1:Int))) (B4 P N2 x0 x1 x5 H) (B1 P x0 H))
def L2 (P:PT):Y k1:=fun x0 x1 x5 H=>
  ∃ (I:Y k1) (μ:NTy k1 (AHeap→Nat)),I x0 x1 x5 H∧∀ y0 y1 y5 G,I y0 y1 y5 G→B5 P (fun z0 z1 z5 G'=>I z0 z1 z5 G'∧μ z0 z1 z5 G'<μ y0 y1 y5 G) y0 y1 y5 G
theorem l2 P:LQ k1 (L2 P) (B5 P):=fun ⟨_,_,_,_⟩ _ ⟨I,μ,h0,hI⟩=>⟨apT _ I,apT _ μ,h0,fun ⟨_,_,_,_⟩ _ h=>hI _ _ _ _  h⟩
abbrev k2:Sk:=[(0,.v),(1,.v)]
def o6:=O 12
def B6 (P:PT):Y k2:=fun x0 x1 H=>
  L2 P x0 x1 0 H
def B7 (P:PT):Y k2:=fun x0 x1 H=>
  B6 P x0 x1 H
def code:Code:=(.seq (R 0 2) (.seq (.seq (R 1 12) (.block 0 (.loop (.seq (.seq (R 2 208) (.cond (.tmp 9) .skip (.exit 0))) (.seq (.block 1 (.region 4 ⟨o4⟩ true)) (R 3 211)))))) (.seq (R 5 14) .ret)))
theorem body:Tryz.f209.body=some code:=by kernel_rfl
theorem main P:Z 29 k2 (B7 P) code (ret P):=
  (r_seq (b (E k2 (B6 P))) (r_seq (r_seq (b (E k1 (L2 P))) (r_block (rL (l2 P) (fun N2=>(r_seq (r_seq (b (cnd 9 (E k1 (B4 P N2)) (E k0 (B1 P)))) (r_cond rfl r_skip (r_exit (fun _ _ h=>h)))) (r_seq (r_block (rD T0_ok mixed [(0,false),(1,false),(2,false),(3,false),(4,false),(5,false),(6,false),(7,false),(8,false),(9,false),(10,false),(11,false),(12,false),(13,false),(14,false),(15,false),(16,false)] (by kernel_rfl) (q4 P N2))) (b (E k1 N2)))))))) (r_seq (b (ret P)) r_ret)))
theorem ac (P:PT) (x0 x1:Value) (H:AHeap) (h:B7 P x0 x1 H):A 209 [x0,x1] H P:=
  r_fn T0_ok (c:=code) (n:=29) Tryz.func209 body (by kernel_rfl) (main P) (En_mk (x0,x1,()) (by kernel_rfl) ⟨by kernel_rfl,by kernel_rfl,trivial⟩ h)

end F209
namespace F210
abbrev E:=En 19
def O (k:Nat):=ob Tryz.f210 (pth k)
abbrev R (i k:Nat):Code:=.region i ⟨O k⟩ false
def ret (P:PT):EP:=retE T0 19 Tryz.f210 P
abbrev k0:Sk:=[]
def B1 (P:PT):Y k0:=fun H=>
  P (I (-1)) H
abbrev k1:Sk:=[(0,.v),(1,.v),(7,J),(8,J)]
def B3 (P:PT) (N2:Y k1):Y k1:=fun x0 x1 x7 x8 H=>
  N2 x0 x1 x7 (i64.wrap (x8+1)) H
abbrev k2:Sk:=[(5,J)]
def B4 (P:PT) (N2:Y k1):Y k2:=fun x5 H=>
  P (I x5) H
abbrev k3:Sk:=[(0,.v),(1,.v),(5,J),(7,J),(8,J)]
def B5 (P:PT) (N2:Y k1):Y k3:=fun x0 x1 x5 x7 x8 H=>
  idxK x0 x5 1 (fun b1 o2=>ldI .u64 H b1 o2 (fun v3=>callV Tryz.prog T0 x1 [(int .u64 v3)] H (fun v4 H5=>asB v4 (fun v6=>pif v6 (B4 P N2 x5 H5) (B3 P N2 x0 x1 x7 x8 H5)))))
def B6 (P:PT) (N2:Y k1):Y k1:=fun x0 x1 x7 x8 H=>
  B5 P N2 x0 x1 x8 x7 x8 H
def B7 (P:PT) (N2:Y k1):Y k1:=fun x0 x1 x7 x8 H=>
  pif (decide ((x8:Int)<x7)) (B6 P N2 x0 x1 x7 x8 H) (B1 P H)
def L2 (P:PT):Y k1:=fun x0 x1 x7 x8 H=>
  ∃ (I:Y k1) (μ:NTy k1 (AHeap→Nat)),I x0 x1 x7 x8 H∧∀ y0 y1 y7 y8 G,I y0 y1 y7 y8 G→B7 P (fun z0 z1 z7 z8 G'=>I z0 z1 z7 z8 G'∧μ z0 z1 z7 z8 G'<μ y0 y1 y7 y8 G) y0 y1 y7 y8 G
theorem l2 P:LQ k1 (L2 P) (B7 P):=fun ⟨_,_,_,_,_⟩ _ ⟨I,μ,h0,hI⟩=>⟨apT _ I,apT _ μ,h0,fun ⟨_,_,_,_,_⟩ _ h=>hI _ _ _ _ _  h⟩
abbrev k4:Sk:=[(0,.v),(1,.v)]
def B8 (P:PT):Y k4:=fun x0 x1 H=>
  lenK x0 (fun n1=>L2 P x0 x1 (n1:Int) 0 H)
def B9 (P:PT):Y k4:=fun x0 x1 H=>
  B8 P x0 x1 H
def code:Code:=(.seq (R 0 2) (.seq (.seq (R 1 12) (.block 0 (.loop (.seq (R 2 104) (.seq (.cond (.tmp 9) .skip (.exit 0)) (.seq (.block 1 (.seq (R 3 1688) (.seq (R 4 3378) (.cond (.tmp 16) (.seq (R 5 13516) .ret) .skip)))) (R 6 423))))))) (.seq (R 7 14) .ret)))
theorem body:Tryz.f210.body=some code:=by kernel_rfl
theorem main P:Z 19 k4 (B9 P) code (ret P):=
  (r_seq (b (E k4 (B8 P))) (r_seq (r_seq (b (E k1 (L2 P))) (r_block (rL (l2 P) (fun N2=>(r_seq (b (cnd 9 (E k1 (B6 P N2)) (E k0 (B1 P)))) (r_seq (r_cond rfl r_skip (r_exit (fun _ _ h=>h))) (r_seq (r_block (r_seq (b (E k3 (B5 P N2))) (r_seq (b (cnd 16 (E k2 (B4 P N2)) (E k1 (B3 P N2)))) (r_cond rfl (r_seq (b (ret P)) r_ret) r_skip)))) (b (E k1 N2))))))))) (r_seq (b (ret P)) r_ret)))
theorem ac (P:PT) (x0 x1:Value) (H:AHeap) (h:B9 P x0 x1 H):A 210 [x0,x1] H P:=
  r_fn T0_ok (c:=code) (n:=19) Tryz.func210 body (by kernel_rfl) (main P) (En_mk (x0,x1,()) (by kernel_rfl) ⟨by kernel_rfl,by kernel_rfl,trivial⟩ h)

end F210
namespace F225
abbrev E:=En 51
def O (k:Nat):=ob Tryz.f225 (pth k)
abbrev R (i k:Nat):Code:=.region i ⟨O k⟩ false
def ret (P:PT):EP:=retE T0 51 Tryz.f225 P
abbrev k0:Sk:=[(0,.i .u64),(1,.i .u64),(4,.i .u64)]
def B1 (P:PT):Y k0:=fun x0 x1 x4 H=>
  P (tuple ⟨[(int .u64 x4),(int .u64 (u64.wrap (x0*x1)))]⟩) H
abbrev k1:Sk:=[(0,.i .u64),(1,.i .u64),(7,.i .u64),(9,.i .u64),(12,.i .u64),(13,.i .u64)]
def B2 (P:PT):Y k1:=fun x0 x1 x7 x9 x12 x13 H=>
  ((0:Int)≤32)∧(B1 P x0 x1 (u64.wrap ((u64.wrap ((u64.wrap (x7*x9))+x13))+(Int.fdiv x12 (2^(min (Int.toNat 32) 64))))) H)
abbrev k2:Sk:=[(0,.i .u64),(1,.i .u64),(6,.i .u64),(7,.i .u64),(9,.i .u64),(12,.i .u64),(13,.i .u64)]
def B3 (P:PT):Y k2:=fun x0 x1 x6 x7 x9 x12 x13 H=>
  B2 P x0 x1 x7 x9 (u64.wrap (x12+(u64.wrap (x6*x9)))) x13 H
abbrev k3:Sk:=[(0,.i .u64),(1,.i .u64),(6,.i .u64),(7,.i .u64),(9,.i .u64),(11,.i .u64),(12,.i .u64)]
def B4 (P:PT):Y k3:=fun x0 x1 x6 x7 x9 x11 x12 H=>
  ((0:Int)≤32)∧(B3 P x0 x1 x6 x7 x9 x12 (Int.fdiv x11 (2^(min (Int.toNat 32) 64))) H)
abbrev k4:Sk:=[(0,.i .u64),(1,.i .u64),(6,.i .u64),(7,.i .u64),(9,.i .u64),(11,.i .u64)]
def B5 (P:PT):Y k4:=fun x0 x1 x6 x7 x9 x11 H=>
  B4 P x0 x1 x6 x7 x9 x11 (u64.wrap (BitVec.ofInt 64 x11&&&BitVec.ofInt 64 4294967295).toNat) H
abbrev k5:Sk:=[(0,.i .u64),(1,.i .u64),(6,.i .u64),(7,.i .u64),(8,.i .u64),(9,.i .u64),(10,.i .u64)]
def B6 (P:PT):Y k5:=fun x0 x1 x6 x7 x8 x9 x10 H=>
  ((0:Int)≤32)∧(B5 P x0 x1 x6 x7 x9 (u64.wrap ((u64.wrap (x7*x8))+(Int.fdiv x10 (2^(min (Int.toNat 32) 64))))) H)
abbrev k6:Sk:=[(0,.i .u64),(1,.i .u64),(6,.i .u64),(7,.i .u64),(8,.i .u64),(9,.i .u64)]
def B7 (P:PT):Y k6:=fun x0 x1 x6 x7 x8 x9 H=>
  B6 P x0 x1 x6 x7 x8 x9 (u64.wrap (x6*x8)) H
abbrev k7:Sk:=[(0,.i .u64),(1,.i .u64),(6,.i .u64),(7,.i .u64),(8,.i .u64)]
def B8 (P:PT):Y k7:=fun x0 x1 x6 x7 x8 H=>
  ((0:Int)≤32)∧(B7 P x0 x1 x6 x7 x8 (Int.fdiv x1 (2^(min (Int.toNat 32) 64))) H)
abbrev k8:Sk:=[(0,.i .u64),(1,.i .u64),(6,.i .u64),(7,.i .u64)]
def B9 (P:PT):Y k8:=fun x0 x1 x6 x7 H=>
  B8 P x0 x1 x6 x7 (u64.wrap (BitVec.ofInt 64 x1&&&BitVec.ofInt 64 4294967295).toNat) H
abbrev k9:Sk:=[(0,.i .u64),(1,.i .u64),(6,.i .u64)]
def B10 (P:PT):Y k9:=fun x0 x1 x6 H=>
  ((0:Int)≤32)∧(B9 P x0 x1 x6 (Int.fdiv x0 (2^(min (Int.toNat 32) 64))) H)
abbrev k10:Sk:=[(0,.i .u64),(1,.i .u64)]
def B11 (P:PT):Y k10:=fun x0 x1 H=>
  B10 P x0 x1 (u64.wrap (BitVec.ofInt 64 x0&&&BitVec.ofInt 64 4294967295).toNat) H
def B12 (P:PT):Y k10:=fun x0 x1 H=>
  B11 P x0 x1 H
def code:Code:=(.seq (R 0 2) (.seq (R 1 6) (.seq (R 2 14) (.seq (R 3 30) (.seq (R 4 62) (.seq (R 5 126) (.seq (R 6 254) (.seq (R 7 510) (.seq (R 8 1022) (.seq (R 9 2046) (.seq (R 10 4094) (.seq (R 11 8190) .ret))))))))))))
theorem body:Tryz.f225.body=some code:=by kernel_rfl
theorem main P:Z 51 k10 (B12 P) code (ret P):=
  (r_seq (b (E k10 (B11 P))) (r_seq (b (E k9 (B10 P))) (r_seq (b (E k8 (B9 P))) (r_seq (b (E k7 (B8 P))) (r_seq (b (E k6 (B7 P))) (r_seq (b (E k5 (B6 P))) (r_seq (b (E k4 (B5 P))) (r_seq (b (E k3 (B4 P))) (r_seq (b (E k2 (B3 P))) (r_seq (b (E k1 (B2 P))) (r_seq (b (E k0 (B1 P))) (r_seq (b (ret P)) r_ret))))))))))))
theorem ac (P:PT) (x0 x1:Int) (H:AHeap) (h:B12 P x0 x1 H):A 225 [(int .u64 x0),(int .u64 x1)] H P:=
  r_fn T0_ok (c:=code) (n:=51) Tryz.func225 body (by kernel_rfl) (main P) (En_mk (x0,x1,()) (by kernel_rfl) ⟨by kernel_rfl,by kernel_rfl,trivial⟩ h)

end F225
end
end Go.Proofs
