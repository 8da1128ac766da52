import Derived.Test.YtngacbdogjmpaaaGreatX35S
set_option linter.unusedVariables false
set_option maxRecDepth 100000
namespace Go.Proofs
open Go.Abs
open Value IntKind
noncomputable section
namespace F126
abbrev E:=En 36
def O (k:Nat):=ob Tryz.f126 (pth k)
abbrev R (i k:Nat):Code:=.region i ⟨O k⟩ false
def ret (P:PT):EP:=retE T0 36 Tryz.f126 P
abbrev k0:Sk:=[]
def B1 (P:PT):Y k0:=fun H=>
  P (I 0) H
def o2:=O 116
def B2 (P:PT):Y k0:=fun H=>
  P (I (-1)) H
abbrev k1:Sk:=[(0,.v),(1,.v)]
def B3 (P:PT):Y k1:=fun x0 x1 H=>
  lenK x0 (fun n1=>lenK x1 (fun n2=>pif (decide (((n1:Int):Int)<(n2:Int))) (B2 P H) (B1 P H)))
abbrev k2:Sk:=[(0,.v),(1,.v),(9,.v),(10,J),(11,J)]
def B5 (P:PT) (N4:Y k2):Y k2:=fun x0 x1 x9 x10 x11 H=>
  N4 x0 x1 x9 x10 (i64.wrap (x11+1)) H
abbrev k3:Sk:=[(8,J)]
def B6 (P:PT) (N4:Y k2):Y k3:=fun x8 H=>
  P (I x8) H
abbrev k4:Sk:=[(0,.v),(1,.v),(8,J),(9,.v),(10,J),(11,J)]
def B7 (P:PT) (N4:Y k2):Y k4:=fun x0 x1 x8 x9 x10 x11 H=>
  pif ((x8:Int) != 0) (B6 P N4 x8 H) (B5 P N4 x0 x1 x9 x10 x11 H)
abbrev k5:Sk:=[(0,.v),(1,.v),(6,J),(7,J),(9,.v),(10,J),(11,J)]
def B8 (P:PT) (N4:Y k2):Y k5:=fun x0 x1 x6 x7 x9 x10 x11 H=>
  A 125 [(I x6),(I x7)] H (fun v1 H2=>asI .i64 v1 (fun v3=>B7 P N4 x0 x1 v3 x9 x10 x11 H2))
abbrev k6:Sk:=[(0,.v),(1,.v),(5,J),(6,J),(9,.v),(10,J),(11,J)]
def B9 (P:PT) (N4:Y k2):Y k6:=fun x0 x1 x5 x6 x9 x10 x11 H=>
  idxK x1 x5 1 (fun b1 o2=>li H b1 o2 (fun v3=>B8 P N4 x0 x1 x6 v3 x9 x10 x11 H))
def B10 (P:PT) (N4:Y k2):Y k0:=fun H=>
  P (I 1) H
def B11 (P:PT) (N4:Y k2):Y k6:=fun x0 x1 x5 x6 x9 x10 x11 H=>
  lenK x1 (fun n1=>pif (decide ((x5:Int)≥(n1:Int))) (B10 P N4 H) (B9 P N4 x0 x1 x5 x6 x9 x10 x11 H))
def B12 (P:PT) (N4:Y k2):Y k2:=fun x0 x1 x9 x10 x11 H=>
  idxK x9 x11 1 (fun b1 o2=>li H b1 o2 (fun v3=>B11 P N4 x0 x1 x11 v3 x9 x10 x11 H))
def B13 (P:PT) (N4:Y k2):Y k2:=fun x0 x1 x9 x10 x11 H=>
  pif (decide ((x11:Int)<x10)) (B12 P N4 x0 x1 x9 x10 x11 H) (B3 P x0 x1 H)
def L4 (P:PT):Y k2:=fun x0 x1 x9 x10 x11 H=>
  ∃ (I:Y k2) (μ:NTy k2 (AHeap→Nat)),I x0 x1 x9 x10 x11 H∧∀ y0 y1 y9 y10 y11 G,I y0 y1 y9 y10 y11 G→B13 P (fun z0 z1 z9 z10 z11 G'=>I z0 z1 z9 z10 z11 G'∧μ z0 z1 z9 z10 z11 G'<μ y0 y1 y9 y10 y11 G) y0 y1 y9 y10 y11 G
theorem l4 P:LQ k2 (L4 P) (B13 P):=fun ⟨_,_,_,_,_,_⟩ _ ⟨I,μ,h0,hI⟩=>⟨apT _ I,apT _ μ,h0,fun ⟨_,_,_,_,_,_⟩ _ h=>hI _ _ _ _ _ _  h⟩
def B14 (P:PT):Y k1:=fun x0 x1 H=>
  lenK x0 (fun n1=>L4 P x0 x1 x0 (n1:Int) 0 H)
def B15 (P:PT):Y k1:=fun x0 x1 H=>
  B14 P x0 x1 H
def code:Code:=(.seq (R 0 2) (.seq (.seq (R 1 12) (.block 0 (.loop (.seq (R 2 104) (.seq (.cond (.tmp 12) .skip (.exit 0)) (.seq (.block 1 (.seq (R 3 1688) (.seq (.seq (R 4 6756) (.cond (.tmp 19) (.seq (R 5 27028) .ret) .skip)) (.seq (R 6 6758) (.seq (R 7 13518) (.seq (R 8 27038) (.cond (.tmp 28) (.seq (R 9 108156) .ret) .skip))))))) (R 10 423))))))) (.seq (.seq (R 11 28) (.cond (.tmp 35) (.seq (R 12 116) .ret) .skip)) (.seq (R 13 30) .ret))))
theorem body:Tryz.f126.body=some code:=by kernel_rfl
theorem main P:Z 36 k1 (B15 P) code (ret P):=
  (r_seq (b (E k1 (B14 P))) (r_seq (r_seq (b (E k2 (L4 P))) (r_block (rL (l4 P) (fun N4=>(r_seq (b (cnd 12 (E k2 (B12 P N4)) (E k1 (B3 P)))) (r_seq (r_cond rfl r_skip (r_exit (fun _ _ h=>h))) (r_seq (r_block (r_seq (b (E k6 (B11 P N4))) (r_seq (r_seq (b (cnd 19 (E k0 (B10 P N4)) (E k6 (B9 P N4)))) (r_cond rfl (r_seq (b (ret P)) r_ret) r_skip)) (r_seq (b (E k5 (B8 P N4))) (r_seq (b (E k4 (B7 P N4))) (r_seq (b (cnd 28 (E k3 (B6 P N4)) (E k2 (B5 P N4)))) (r_cond rfl (r_seq (b (ret P)) r_ret) r_skip))))))) (b (E k2 N4))))))))) (r_seq (r_seq (b (cnd 35 (E k0 (B2 P)) (E k0 (B1 P)))) (r_cond rfl (r_seq (b (ret P)) r_ret) r_skip)) (r_seq (b (ret P)) r_ret))))
theorem ac (P:PT) (x0 x1:Value) (H:AHeap) (h:B15 P x0 x1 H):A 126 [x0,x1] H P:=
  r_fn T0_ok (c:=code) (n:=36) Tryz.func126 body (by kernel_rfl) (main P) (En_mk (x0,x1,()) (by kernel_rfl) ⟨by kernel_rfl,by kernel_rfl,trivial⟩ h)

end F126
namespace F127
abbrev E:=En 61
def O (k:Nat):=ob Tryz.f127 (pth k)
abbrev R (i k:Nat):Code:=.region i ⟨O k⟩ false
def ret (P:PT):EP:=retE T0 61 Tryz.f127 P
abbrev k0:Sk:=[]
def B1 (P:PT):Y k0:=fun H=>
  P (I 0) H
abbrev k1:Sk:=[(0,J),(1,.v),(5,J)]
def B3 (P:PT) (N2:Y k1):Y k1:=fun x0 x1 x5 H=>
  N2 x0 x1 (i64.wrap (x5+1)) H
def B4 (P:PT) (N2:Y k1):Y k0:=fun H=>
  P (I 2) H
def o5:=O 1864
def B5 (P:PT) (N2:Y k1):Y k1:=fun x0 x1 x5 H=>
  idxK x1 x5 2 (fun b1 o2=>li H b1 o2 (fun v3=>A 81 [(I v3),(I 0),(I (i64.wrap (x0-1)))] H (fun v4 H5=>asB v4 (fun v6=>pif (!v6) (B4 P N2 H5) (idxK x1 x5 2 (fun b7 o8=>li H5 b7 (o8+1) (fun v9=>A 81 [(I v9),(I 0),(I (i64.wrap (x0-1)))] H5 (fun v10 H11=>asB v10 (fun v12=>pif (!v12) (B4 P N2 H11) (idxK x1 x5 2 (fun b13 o14=>li H11 b13 o14 (fun v15=>idxK x1 x5 2 (fun b16 o17=>li H11 b16 (o17+1) (fun v18=>pif ((v15:Int)==v18) (B4 P N2 H11) (B3 P N2 x0 x1 x5 H11)))))))))))))))
theorem q5 (P:PT) (N2:Y k1):QD Tryz.prog T0 61 o5 [(0,false),(1,false),(2,false),(3,false),(4,false),(5,false),(6,false),(7,false),(8,false),(9,false),(10,false),(11,false),(12,false),(13,false),(14,false),(15,false),(16,false),(17,false),(18,false),(19,false),(20,false),(21,false),(22,false),(23,false),(24,false),(25,false),(26,false),(27,false),(28,false),(29,false),(30,false),(31,false),(32,false)] (cnd 60 (En 61 k0 (B4 P N2)) (En 61 k1 (B3 P N2))) k1 (B5 P N2):=fun _ _ _ _ _  => by kernel_rfl
def B6 (P:PT) (N2:Y k1):Y k1:=fun x0 x1 x5 H=>
  lenK x1 (fun n1=>pif (decide ((x5:Int)<(n1:Int))) (B5 P N2 x0 x1 x5 H) (B1 P H))
def L2 (P:PT):Y k1:=fun x0 x1 x5 H=>
  ∃ (I:Y k1) (μ:NTy k1 (AHeap→Nat)),I x0 x1 x5 H∧∀ y0 y1 y5 G,I y0 y1 y5 G→B6 P (fun z0 z1 z5 G'=>I z0 z1 z5 G'∧μ z0 z1 z5 G'<μ y0 y1 y5 G) y0 y1 y5 G
theorem l2 P:LQ k1 (L2 P) (B6 P):=fun ⟨_,_,_,_⟩ _ ⟨I,μ,h0,hI⟩=>⟨apT _ I,apT _ μ,h0,fun ⟨_,_,_,_⟩ _ h=>hI _ _ _ _  h⟩
abbrev k2:Sk:=[(0,J),(1,.v)]
def B7 (P:PT):Y k2:=fun x0 x1 H=>
  L2 P x0 x1 0 H
def o8:=O 52
def B8 (P:PT):Y k0:=fun H=>
  P (I 2) H
def B9 (P:PT):Y k2:=fun x0 x1 H=>
  A 81 [(I x0),(I 2),(I 20)] H (fun v1 H2=>asB v1 (fun v3=>pif (!v3) (B8 P H2) (pif ((Int.tmod x0 2:Int) != 0) (B8 P H2) (lenK x1 (fun n4=>pif (((n4:Int):Int) != (i64.wrap (Int.tdiv (i64.wrap (3*x0)) 2))) (B8 P H2) (B7 P x0 x1 H2))))))
def B10 (P:PT):Y k2:=fun x0 x1 H=>
  B9 P x0 x1 H
def code:Code:=(.seq (R 0 2) (.seq (.seq (R 1 12) (.cond (.tmp 21) (.seq (R 2 52) .ret) .skip)) (.seq (.seq (R 3 28) (.block 0 (.loop (.seq (.seq (R 4 464) (.cond (.tmp 25) .skip (.exit 0))) (.seq (.block 1 (.seq (.region 6 ⟨o5⟩ true) (.cond (.tmp 60) (.seq (R 7 7460) .ret) .skip))) (R 5 467)))))) (.seq (R 8 30) .ret))))
theorem body:Tryz.f127.body=some code:=by kernel_rfl
theorem main P:Z 61 k2 (B10 P) code (ret P):=
  (r_seq (b (E k2 (B9 P))) (r_seq (r_seq (b (cnd 21 (E k0 (B8 P)) (E k2 (B7 P)))) (r_cond rfl (r_seq (b (ret P)) r_ret) r_skip)) (r_seq (r_seq (b (E k1 (L2 P))) (r_block (rL (l2 P) (fun N2=>(r_seq (r_seq (b (cnd 25 (E k1 (B5 P N2)) (E k0 (B1 P)))) (r_cond rfl r_skip (r_exit (fun _ _ h=>h)))) (r_seq (r_block (r_seq (rD T0_ok mixed [(0,false),(1,false),(2,false),(3,false),(4,false),(5,false),(6,false),(7,false),(8,false),(9,false),(10,false),(11,false),(12,false),(13,false),(14,false),(15,false),(16,false),(17,false),(18,false),(19,false),(20,false),(21,false),(22,false),(23,false),(24,false),(25,false),(26,false),(27,false),(28,false),(29,false),(30,false),(31,false),(32,false)] (by kernel_rfl) (q5 P N2)) (r_cond rfl (r_seq (b (ret P)) r_ret) r_skip))) (b (E k1 N2)))))))) (r_seq (b (ret P)) r_ret))))
theorem ac (P:PT) (x0:Int) (x1:Value) (H:AHeap) (h:B10 P x0 x1 H):A 127 [(I x0),x1] H P:=
  r_fn T0_ok (c:=code) (n:=61) Tryz.func127 body (by kernel_rfl) (main P) (En_mk (x0,x1,()) (by kernel_rfl) ⟨by kernel_rfl,by kernel_rfl,trivial⟩ h)

end F127
namespace F128
abbrev E:=En 46
def O (k:Nat):=ob Tryz.f128 (pth k)
abbrev R (i k:Nat):Code:=.region i ⟨O k⟩ false
def ret (P:PT):EP:=retE T0 46 Tryz.f128 P
abbrev k0:Sk:=[]
def B1 (P:PT):Y k0:=fun H=>
  P (bool true) H
abbrev k1:Sk:=[(0,J),(5,.v),(7,J)]
def B3 (P:PT) (N2:Y k1):Y k1:=fun x0 x5 x7 H=>
  N2 x0 x5 (i64.wrap (x7+1)) H
def B4 (P:PT) (N2:Y k1):Y k0:=fun H=>
  P (bool false) H
def o5:=O 3912
def B5 (P:PT) (N2:Y k1):Y k1:=fun x0 x5 x7 H=>
  idxK x5 x7 1 (fun b1 o2=>li H b1 o2 (fun v3=>pif ((v3:Int) != 3) (B4 P N2 H) (B3 P N2 x0 x5 x7 H)))
def B6 (P:PT) (N2:Y k1):Y k1:=fun x0 x5 x7 H=>
  pif (decide ((x7:Int)<x0)) (B5 P N2 x0 x5 x7 H) (B1 P H)
def L2 (P:PT):Y k1:=fun x0 x5 x7 H=>
  ∃ (I:Y k1) (μ:NTy k1 (AHeap→Nat)),I x0 x5 x7 H∧∀ y0 y5 y7 G,I y0 y5 y7 G→B6 P (fun z0 z5 z7 G'=>I z0 z5 z7 G'∧μ z0 z5 z7 G'<μ y0 y5 y7 G) y0 y5 y7 G
theorem l2 P:LQ k1 (L2 P) (B6 P):=fun ⟨_,_,_,_⟩ _ ⟨I,μ,h0,hI⟩=>⟨apT _ I,apT _ μ,h0,fun ⟨_,_,_,_⟩ _ h=>hI _ _ _ _  h⟩
abbrev k2:Sk:=[(0,J),(5,.v)]
def B7 (P:PT):Y k2:=fun x0 x5 H=>
  L2 P x0 x5 0 H
abbrev k3:Sk:=[(0,J),(1,.v),(5,.v),(6,J)]
def B9 (P:PT) (N8:Y k3):Y k3:=fun x0 x1 x5 x6 H=>
  N8 x0 x1 x5 (i64.wrap (x6+1)) H
def B10 (P:PT) (N8:Y k3):Y k3:=fun x0 x1 x5 x6 H=>
  idxK x1 x6 2 (fun b1 o2=>li H b1 (o2+1) (fun v3=>idxK x5 v3 1 (fun b4 o5=>li H b4 o5 (fun v6=>idxK x5 v3 1 (fun b7 o8=>stK H b7 o8 [(I (i64.wrap (v6+1)))] (fun H9=>B9 P N8 x0 x1 x5 x6 H9))))))
def B11 (P:PT) (N8:Y k3):Y k3:=fun x0 x1 x5 x6 H=>
  idxK x1 x6 2 (fun b1 o2=>li H b1 o2 (fun v3=>idxK x5 v3 1 (fun b4 o5=>li H b4 o5 (fun v6=>idxK x5 v3 1 (fun b7 o8=>stK H b7 o8 [(I (i64.wrap (v6+1)))] (fun H9=>B10 P N8 x0 x1 x5 x6 H9))))))
def B12 (P:PT) (N8:Y k3):Y k3:=fun x0 x1 x5 x6 H=>
  lenK x1 (fun n1=>pif (decide ((x6:Int)<(n1:Int))) (B11 P N8 x0 x1 x5 x6 H) (B7 P x0 x5 H))
def L8 (P:PT):Y k3:=fun x0 x1 x5 x6 H=>
  ∃ (I:Y k3) (μ:NTy k3 (AHeap→Nat)),I x0 x1 x5 x6 H∧∀ y0 y1 y5 y6 G,I y0 y1 y5 y6 G→B12 P (fun z0 z1 z5 z6 G'=>I z0 z1 z5 z6 G'∧μ z0 z1 z5 z6 G'<μ y0 y1 y5 y6 G) y0 y1 y5 y6 G
theorem l8 P:LQ k3 (L8 P) (B12 P):=fun ⟨_,_,_,_,_⟩ _ ⟨I,μ,h0,hI⟩=>⟨apT _ I,apT _ μ,h0,fun ⟨_,_,_,_,_⟩ _ h=>hI _ _ _ _ _  h⟩
abbrev k4:Sk:=[(0,J),(1,.v),(5,.v)]
def B13 (P:PT):Y k4:=fun x0 x1 x5 H=>
  L8 P x0 x1 x5 0 H
abbrev k5:Sk:=[(0,J),(1,.v)]
def B14 (P:PT):Y k5:=fun x0 x1 H=>
  mkR H 8 2 [(I 0)] x0 x0 (fun v2 H1=>B13 P x0 x1 v2 H1)
def B15 (P:PT):Y k5:=fun x0 x1 H=>
  B14 P x0 x1 H
def code:Code:=(.seq (R 0 2) (.seq (R 1 6) (.seq (.seq (R 2 28) (.block 0 (.loop (.seq (.seq (R 3 464) (.cond (.tmp 13) .skip (.exit 0))) (.seq (.block 1 (.seq (R 5 1864) (R 6 1865))) (R 4 467)))))) (.seq (.seq (R 7 60) (.block 2 (.loop (.seq (.seq (R 8 976) (.cond (.tmp 38) .skip (.exit 2))) (.seq (.block 3 (.seq (R 10 3912) (.cond (.tmp 45) (.seq (R 11 15652) .ret) .skip))) (R 9 979)))))) (.seq (R 12 62) .ret)))))
theorem body:Tryz.f128.body=some code:=by kernel_rfl
theorem main P:Z 46 k5 (B15 P) code (ret P):=
  (r_seq (b (E k5 (B14 P))) (r_seq (b (E k4 (B13 P))) (r_seq (r_seq (b (E k3 (L8 P))) (r_block (rL (l8 P) (fun N8=>(r_seq (r_seq (b (cnd 13 (E k3 (B11 P N8)) (E k2 (B7 P)))) (r_cond rfl r_skip (r_exit (fun _ _ h=>h)))) (r_seq (r_block (r_seq (b (E k3 (B10 P N8))) (b (E k3 (B9 P N8))))) (b (E k3 N8)))))))) (r_seq (r_seq (b (E k1 (L2 P))) (r_block (rL (l2 P) (fun N2=>(r_seq (r_seq (b (cnd 38 (E k1 (B5 P N2)) (E k0 (B1 P)))) (r_cond rfl r_skip (r_exit (fun _ _ h=>h)))) (r_seq (r_block (r_seq (b (cnd 45 (E k0 (B4 P N2)) (E k1 (B3 P N2)))) (r_cond rfl (r_seq (b (ret P)) r_ret) r_skip))) (b (E k1 N2)))))))) (r_seq (b (ret P)) r_ret)))))
theorem ac (P:PT) (x0:Int) (x1:Value) (H:AHeap) (h:B15 P x0 x1 H):A 128 [(I x0),x1] H P:=
  r_fn T0_ok (c:=code) (n:=46) Tryz.func128 body (by kernel_rfl) (main P) (En_mk (x0,x1,()) (by kernel_rfl) ⟨by kernel_rfl,by kernel_rfl,trivial⟩ h)

end F128
namespace F129
abbrev E:=En 24
def O (k:Nat):=ob Tryz.f129 (pth k)
abbrev R (i k:Nat):Code:=.region i ⟨O k⟩ false
def ret (P:PT):EP:=retE T0 24 Tryz.f129 P
abbrev k0:Sk:=[(2,.x),(3,.x)]
def B1 (P:PT):Y k0:=fun x2 x3 H=>
  li H x2 0 (fun v1=>li H x3 0 (fun v2=>pif (decide ((v1:Int)<v2)) (P (bool true) H) (li H x2 0 (fun v3=>li H x3 0 (fun v4=>pif ((v3:Int)==v4) (li H x2 1 (fun v5=>li H x3 1 (fun v6=>P (bool (decide ((v5:Int)<v6))) H))) (P (bool false) H))))))
abbrev k1:Sk:=[(0,.g [.i,.i]),(1,.g [.i,.i])]
def B2 (P:PT):Y k1:=fun x0a x0b x1a x1b H=>
  newK H [(I x0a),(I x0b)] 66 (fun b1 H2=>newK H2 [(I x1a),(I x1b)] 66 (fun b3 H4=>B1 P b1 b3 H4))
def code:Code:=(.seq (R 0 2) (.seq (R 1 6) .ret))
theorem body:Tryz.f129.body=some code:=by kernel_rfl
theorem main P:Z 24 k1 (B2 P) code (ret P):=
  (r_seq (b (E k0 (B1 P))) (r_seq (b (ret P)) r_ret))
theorem ac (P:PT) (x0a x0b x1a x1b:Int) (H:AHeap) (h:B2 P x0a x0b x1a x1b H):A 129 [(agg ⟨[(I x0a),(I x0b)]⟩),(agg ⟨[(I x1a),(I x1b)]⟩)] H P:=
  r_fn T0_ok (c:=code) (n:=24) Tryz.func129 body (by kernel_rfl) (main P) (En_mk (x0a,x0b,x1a,x1b,()) (by kernel_rfl) ⟨by kernel_rfl,by kernel_rfl,trivial⟩ h)

end F129
namespace F130
abbrev E:=En 40
def O (k:Nat):=ob Tryz.f130 (pth k)
abbrev R (i k:Nat):Code:=.region i ⟨O k⟩ false
def ret (P:PT):EP:=retE T0 40 Tryz.f130 P
abbrev k0:Sk:=[]
def B1 (P:PT):Y k0:=fun H=>
  P (bool false) H
abbrev k1:Sk:=[(0,.v),(1,.v),(5,J)]
def B3 (P:PT) (N2:Y k1):Y k1:=fun x0 x1 x5 H=>
  N2 x0 x1 (i64.wrap (x5+1)) H
def o4:=O 7460
def B4 (P:PT) (N2:Y k1):Y k1:=fun x0 x1 x5 H=>
  idxK x0 x5 1 (fun b1 o2=>li H b1 o2 (fun v3=>idxK x1 x5 1 (fun b4 o5=>li H b4 o5 (fun v6=>P (bool (decide ((v3:Int)<v6))) H))))
theorem q4 (P:PT) (N2:Y k1):QD Tryz.prog T0 40 o4 [(0,false),(1,false),(2,false),(3,false),(4,false),(5,false),(6,false),(7,false),(8,false),(9,false)] (ret P) k1 (B4 P N2):=fun _ _ _ _ _  => by kernel_rfl
def o5:=O 1864
def B5 (P:PT) (N2:Y k1):Y k1:=fun x0 x1 x5 H=>
  idxK x0 x5 1 (fun b1 o2=>li H b1 o2 (fun v3=>idxK x1 x5 1 (fun b4 o5=>li H b4 o5 (fun v6=>pif ((v3:Int) != v6) (B4 P N2 x0 x1 x5 H) (B3 P N2 x0 x1 x5 H)))))
theorem q5 (P:PT) (N2:Y k1):QD Tryz.prog T0 40 o5 [(0,false),(1,false),(2,false),(3,false),(4,false),(5,false),(6,false),(7,false),(8,false)] (cnd 30 (En 40 k1 (B4 P N2)) (En 40 k1 (B3 P N2))) k1 (B5 P N2):=fun _ _ _ _ _  => by kernel_rfl
def B6 (P:PT) (N2:Y k1):Y k1:=fun x0 x1 x5 H=>
  lenK x0 (fun n1=>pif (decide ((x5:Int)<(n1:Int))) (B5 P N2 x0 x1 x5 H) (B1 P H))
def L2 (P:PT):Y k1:=fun x0 x1 x5 H=>
  ∃ (I:Y k1) (μ:NTy k1 (AHeap→Nat)),I x0 x1 x5 H∧∀ y0 y1 y5 G,I y0 y1 y5 G→B6 P (fun z0 z1 z5 G'=>I z0 z1 z5 G'∧μ z0 z1 z5 G'<μ y0 y1 y5 G) y0 y1 y5 G
theorem l2 P:LQ k1 (L2 P) (B6 P):=fun ⟨_,_,_,_⟩ _ ⟨I,μ,h0,hI⟩=>⟨apT _ I,apT _ μ,h0,fun ⟨_,_,_,_⟩ _ h=>hI _ _ _ _  h⟩
abbrev k2:Sk:=[(0,.v),(1,.v)]
def B7 (P:PT):Y k2:=fun x0 x1 H=>
  L2 P x0 x1 0 H
def B8 (P:PT):Y k2:=fun x0 x1 H=>
  lenK x0 (fun n1=>lenK x1 (fun n2=>P (bool (decide (((n1:Int):Int)<(n2:Int)))) H))
def B9 (P:PT):Y k2:=fun x0 x1 H=>
  lenK x0 (fun n1=>lenK x1 (fun n2=>pif (((n1:Int):Int) != (n2:Int)) (B8 P x0 x1 H) (B7 P x0 x1 H)))
def B10 (P:PT):Y k2:=fun x0 x1 H=>
  B9 P x0 x1 H
def code:Code:=(.seq (R 0 2) (.seq (.seq (R 1 12) (.cond (.tmp 10) (.seq (R 2 52) .ret) .skip)) (.seq (.seq (R 3 28) (.block 0 (.loop (.seq (.seq (R 4 464) (.cond (.tmp 19) .skip (.exit 0))) (.seq (.block 1 (.seq (.region 6 ⟨o5⟩ true) (.cond (.tmp 30) (.seq (.region 7 ⟨o4⟩ true) .ret) .skip))) (R 5 467)))))) (.seq (R 8 30) .ret))))
theorem body:Tryz.f130.body=some code:=by kernel_rfl
theorem main P:Z 40 k2 (B10 P) code (ret P):=
  (r_seq (b (E k2 (B9 P))) (r_seq (r_seq (b (cnd 10 (E k2 (B8 P)) (E k2 (B7 P)))) (r_cond rfl (r_seq (b (ret P)) r_ret) r_skip)) (r_seq (r_seq (b (E k1 (L2 P))) (r_block (rL (l2 P) (fun N2=>(r_seq (r_seq (b (cnd 19 (E k1 (B5 P N2)) (E k0 (B1 P)))) (r_cond rfl r_skip (r_exit (fun _ _ h=>h)))) (r_seq (r_block (r_seq (rD T0_ok mixed [(0,false),(1,false),(2,false),(3,false),(4,false),(5,false),(6,false),(7,false),(8,false)] (by kernel_rfl) (q5 P N2)) (r_cond rfl (r_seq (rD T0_ok mixed [(0,false),(1,false),(2,false),(3,false),(4,false),(5,false),(6,false),(7,false),(8,false),(9,false)] (by kernel_rfl) (q4 P N2)) r_ret) r_skip))) (b (E k1 N2)))))))) (r_seq (b (ret P)) r_ret))))
theorem ac (P:PT) (x0 x1:Value) (H:AHeap) (h:B10 P x0 x1 H):A 130 [x0,x1] H P:=
  r_fn T0_ok (c:=code) (n:=40) Tryz.func130 body (by kernel_rfl) (main P) (En_mk (x0,x1,()) (by kernel_rfl) ⟨by kernel_rfl,by kernel_rfl,trivial⟩ h)

end F130
namespace F131
abbrev E:=En 74
def O (k:Nat):=ob Tryz.f131 (pth k)
abbrev R (i k:Nat):Code:=.region i ⟨O k⟩ false
def ret (P:PT):EP:=retE T0 74 Tryz.f131 P
abbrev k0:Sk:=[(11,.v)]
def B1 (P:PT):Y k0:=fun x11 H=>
  P x11 H
abbrev k1:Sk:=[(1,.v),(2,J),(3,J),(4,.v),(5,.x),(11,.v),(12,.v),(13,J)]
def B3 (P:PT) (N2:Y k1):Y k1:=fun x1 x2 x3 x4 x5 x11 x12 x13 H=>
  N2 x1 x2 x3 x4 x5 x11 x12 (i64.wrap (x13+1)) H
abbrev k2:Sk:=[(1,.v),(2,J),(3,J),(4,.v),(5,.x),(11,.v),(12,.v),(13,J),(14,J)]
def o4:=O 31311
def B4 (P:PT) (N2:Y k1):Y k2:=fun x1 x2 x3 x4 x5 x11 x12 x13 x14 H=>
  idxK x4 x14 1 (fun b1 o2=>stK H b1 o2 [(bool false)] (fun H3=>B3 P N2 x1 x2 x3 x4 x5 x11 x12 x13 H3))
def o5:=O 31310
def B5 (P:PT) (N2:Y k1):Y k2:=fun x1 x2 x3 x4 x5 x11 x12 x13 x14 H=>
  li H x5 0 (fun v1=>ld1 H x5 1 (fun v2=>idxK x12 x13 1 (fun b3 o4=>li H b3 o4 (fun v5=>(A 168 [x1] H (fun v6 H7=>(li H7 x5 0 (fun v9=>ld1 H7 x5 1 (fun v10=>((agg ⟨[(I v9),v10]⟩)=(agg ⟨[(I v1),v2]⟩))∧(H7=H7))))∧((li H7 b3 o4 (fun v11=>((I v11)=(I v5))∧(H7=H7)))∧(newK H7 [(I v5)] 2 (fun b12 H13=>apK T0 2 H13 v6 (slice (some ⟨b12,0,none⟩) 1 (1+1)) (fun v14 H15=>(li H15 x5 0 (fun v16=>ld1 H15 x5 1 (fun v17=>((agg ⟨[(I v16),v17]⟩)=(agg ⟨[(I v1),v2]⟩))∧(H15=H15))))∧(A 131 [(agg ⟨[(I v1),v2]⟩),v14,(I x14),(I x3),x4] H15 (fun v18 H19=>apK T0 27 H19 x11 v18 (fun v21 H22=>B4 P N2 x1 x2 x3 x4 x5 v21 x12 x13 x14 H22)))))))))∧(newK H [(I v5)] 2 (fun b23 H24=>A 168 [x1] H24 (fun v25 H26=>(li H26 x5 0 (fun v28=>ld1 H26 x5 1 (fun v29=>((agg ⟨[(I v28),v29]⟩)=(agg ⟨[(I v1),v2]⟩))∧(H26=H26))))∧((li H26 b3 o4 (fun v30=>((I v30)=(I v5))∧(H26=H26)))∧(apK T0 2 H26 v25 (slice (some ⟨b23,0,none⟩) 1 (1+1)) (fun v31 H32=>(li H32 x5 0 (fun v33=>ld1 H32 x5 1 (fun v34=>((agg ⟨[(I v33),v34]⟩)=(agg ⟨[(I v1),v2]⟩))∧(H32=H32))))∧(A 131 [(agg ⟨[(I v1),v2]⟩),v31,(I x14),(I x3),x4] H32 (fun v35 H36=>apK T0 27 H36 x11 v35 (fun v38 H39=>B4 P N2 x1 x2 x3 x4 x5 v38 x12 x13 x14 H39)))))))))))))
theorem q5 (P:PT) (N2:Y k1):QT Tryz.prog T0 74 o5 (.op 0 [] (.op 1 [] (.op 2 [] (.op 4 [] (.op 5 [] (.op 6 [] (.op 7 [] (.op 10 [] (.op 11 [] (.op 12 [] (.alt (.op 3 [1,7] (.op 8 [] (.op 9 [1] (.op 13 [] (.op 14 [] (.op 15 [] .done)))))) (.op 8 [] (.op 3 [1,7] (.op 9 [1] (.op 13 [] (.op 14 [] (.op 15 [] .done))))))))))))))))) (En 74 k2 (B4 P N2)) k2 (B5 P N2):=fun _ _ _ _ _ _ _ _ _ _ _  => by kernel_rfl
def B6 (P:PT) (N2:Y k1):Y k2:=fun x1 x2 x3 x4 x5 x11 x12 x13 x14 H=>
  idxK x4 x14 1 (fun b1 o2=>stK H b1 o2 [(bool true)] (fun H3=>B5 P N2 x1 x2 x3 x4 x5 x11 x12 x13 x14 H3))
def o7:=O 15652
def B7 (P:PT) (N2:Y k1):Y k2:=fun x1 x2 x3 x4 x5 x11 x12 x13 x14 H=>
  idxK x12 x13 1 (fun b1 o2=>li H b1 o2 (fun v3=>idxK x1 0 1 (fun b4 o5=>li H b4 o5 (fun v6=>pif (decide ((v3:Int)≤v6)) (B3 P N2 x1 x2 x3 x4 x5 x11 x12 x13 H) (idxK x4 x14 1 (fun b7 o8=>ld1 H b7 o8 (fun v10=>asB v10 (fun v9=>pif v9 (B3 P N2 x1 x2 x3 x4 x5 x11 x12 x13 H) (B6 P N2 x1 x2 x3 x4 x5 x11 x12 x13 x14 H)))))))))
theorem q7 (P:PT) (N2:Y k1):QD Tryz.prog T0 74 o7 [(0,false),(1,false),(2,false),(3,false),(4,false),(5,false),(6,false),(7,false),(8,false),(9,false),(10,false),(11,false),(12,false),(13,false)] (cnd 51 (En 74 k1 (B3 P N2)) (En 74 k2 (B6 P N2))) k2 (B7 P N2):=fun _ _ _ _ _ _ _ _ _ _ _  => by kernel_rfl
def o8:=O 3912
def B8 (P:PT) (N2:Y k1):Y k1:=fun x1 x2 x3 x4 x5 x11 x12 x13 H=>
  li H x5 0 (fun v1=>ld1 H x5 1 (fun v2=>idxK x12 x13 1 (fun b3 o4=>li H b3 o4 (fun v5=>A 170 [(agg ⟨[(I v1),v2]⟩),(I v5),(I x2)] H (fun v6 H7=>asI .i64 v6 (fun v8=>B7 P N2 x1 x2 x3 x4 x5 x11 x12 x13 v8 H7))))))
theorem q8 (P:PT) (N2:Y k1):QD Tryz.prog T0 74 o8 [(0,false),(1,false),(2,false),(3,false),(4,false),(5,false),(6,false),(7,false)] (En 74 k2 (B7 P N2)) k1 (B8 P N2):=fun _ _ _ _ _ _ _ _ _ _  => by kernel_rfl
def B9 (P:PT) (N2:Y k1):Y k1:=fun x1 x2 x3 x4 x5 x11 x12 x13 H=>
  lenK x12 (fun n1=>pif (decide ((x13:Int)<(n1:Int))) (B8 P N2 x1 x2 x3 x4 x5 x11 x12 x13 H) (B1 P x11 H))
def L2 (P:PT):Y k1:=fun x1 x2 x3 x4 x5 x11 x12 x13 H=>
  ∃ (I:Y k1) (μ:NTy k1 (AHeap→Nat)),I x1 x2 x3 x4 x5 x11 x12 x13 H∧∀ y1 y2 y3 y4 y5 y11 y12 y13 G,I y1 y2 y3 y4 y5 y11 y12 y13 G→B9 P (fun z1 z2 z3 z4 z5 z11 z12 z13 G'=>I z1 z2 z3 z4 z5 z11 z12 z13 G'∧μ z1 z2 z3 z4 z5 z11 z12 z13 G'<μ y1 y2 y3 y4 y5 y11 y12 y13 G) y1 y2 y3 y4 y5 y11 y12 y13 G
theorem l2 P:LQ k1 (L2 P) (B9 P):=fun ⟨_,_,_,_,_,_,_,_,_⟩ _ ⟨I,μ,h0,hI⟩=>⟨apT _ I,apT _ μ,h0,fun ⟨_,_,_,_,_,_,_,_,_⟩ _ h=>hI _ _ _ _ _ _ _ _ _  h⟩
abbrev k3:Sk:=[(1,.v),(2,J),(3,J),(4,.v),(5,.x),(11,.v),(12,.v)]
def B10 (P:PT):Y k3:=fun x1 x2 x3 x4 x5 x11 x12 H=>
  L2 P x1 x2 x3 x4 x5 x11 x12 0 H
abbrev k4:Sk:=[(1,.v),(2,J),(3,J),(4,.v),(5,.x)]
def B11 (P:PT):Y k4:=fun x1 x2 x3 x4 x5 H=>
  newK H [] 27 (fun b1 H2=>li H2 x5 0 (fun v3=>ld1 H2 x5 1 (fun v4=>A 82 [(agg ⟨[(I v3),v4]⟩),(I x2)] H2 (fun v5 H6=>B10 P x1 x2 x3 x4 x5 (slice (some ⟨b1,0,none⟩) 0 (0+1)) v5 H6))))
abbrev k5:Sk:=[(1,.v)]
def B12 (P:PT):Y k5:=fun x1 H=>
  A 147 [x1] H (fun v1 H2=>pif (Value.oneCell' v1) (newK H2 [v1] 27 (fun b4 H5=>P (slice (some ⟨b4,0,none⟩) 1 (1+1)) H5)) False)
def B13 (P:PT):Y k4:=fun x1 x2 x3 x4 x5 H=>
  pif ((x2:Int)==x3) (B12 P x1 H) (B11 P x1 x2 x3 x4 x5 H)
abbrev k6:Sk:=[(0,.g [.i,.v]),(1,.v),(2,J),(3,J),(4,.v)]
def B14 (P:PT):Y k6:=fun x0a x0b x1 x2 x3 x4 H=>
  newK H [(I x0a),x0b] 26 (fun b1 H2=>B13 P x1 x2 x3 x4 b1 H2)
def code:Code:=(.seq (R 0 2) (.seq (.seq (R 1 12) (.cond (.tmp 17) (.seq (R 2 52) .ret) .skip)) (.seq (R 3 14) (.seq (.seq (R 4 60) (.block 0 (.loop (.seq (.seq (R 5 976) (.cond (.tmp 28) .skip (.exit 0))) (.seq (.block 1 (.seq (.region 7 ⟨o8⟩ true) (.seq (.seq (.region 8 ⟨o7⟩ true) (.cond (.tmp 51) (.exit 1) .skip)) (.seq (R 9 15654) (.seq (.region 10 ⟨o5⟩ true) (R 11 31311)))))) (R 6 979)))))) (.seq (R 12 62) .ret)))))
theorem body:Tryz.f131.body=some code:=by kernel_rfl
theorem main P:Z 74 k6 (B14 P) code (ret P):=
  (r_seq (b (E k4 (B13 P))) (r_seq (r_seq (b (cnd 17 (E k5 (B12 P)) (E k4 (B11 P)))) (r_cond rfl (r_seq (b (ret P)) r_ret) r_skip)) (r_seq (b (E k3 (B10 P))) (r_seq (r_seq (b (E k1 (L2 P))) (r_block (rL (l2 P) (fun N2=>(r_seq (r_seq (b (cnd 28 (E k1 (B8 P N2)) (E k0 (B1 P)))) (r_cond rfl r_skip (r_exit (fun _ _ h=>h)))) (r_seq (r_block (r_seq (rD T0_ok mixed [(0,false),(1,false),(2,false),(3,false),(4,false),(5,false),(6,false),(7,false)] (by kernel_rfl) (q8 P N2)) (r_seq (r_seq (rD T0_ok mixed [(0,false),(1,false),(2,false),(3,false),(4,false),(5,false),(6,false),(7,false),(8,false),(9,false),(10,false),(11,false),(12,false),(13,false)] (by kernel_rfl) (q7 P N2)) (r_cond rfl (r_exit (fun _ _ h=>h)) r_skip)) (r_seq (b (E k2 (B5 P N2))) (r_seq (rT T0_ok mixed (.op 0 [] (.op 1 [] (.op 2 [] (.op 4 [] (.op 5 [] (.op 6 [] (.op 7 [] (.op 10 [] (.op 11 [] (.op 12 [] (.alt (.op 3 [1,7] (.op 8 [] (.op 9 [1] (.op 13 [] (.op 14 [] (.op 15 [] .done)))))) (.op 8 [] (.op 3 [1,7] (.op 9 [1] (.op 13 [] (.op 14 [] (.op 15 [] .done))))))))))))))))) (by kernel_rfl) (q5 P N2)) (b (E k1 (B3 P N2)))))))) (b (E k1 N2)))))))) (r_seq (b (ret P)) r_ret)))))
theorem ac (P:PT) (x0a:Int) (x0b x1:Value) (x2 x3:Int) (x4:Value) (H:AHeap) (h:B14 P x0a x0b x1 x2 x3 x4 H):A 131 [(agg ⟨[(I x0a),x0b]⟩),x1,(I x2),(I x3),x4] H P:=
  r_fn T0_ok (c:=code) (n:=74) Tryz.func131 body (by kernel_rfl) (main P) (En_mk (x0a,x0b,x1,x2,x3,x4,()) (by kernel_rfl) ⟨by kernel_rfl,by kernel_rfl,by kernel_rfl,by kernel_rfl,by kernel_rfl,trivial⟩ h)

end F131
namespace F132
abbrev E:=En 48
def O (k:Nat):=ob Tryz.f132 (pth k)
abbrev R (i k:Nat):Code:=.region i ⟨O k⟩ false
def ret (P:PT):EP:=retE T0 48 Tryz.f132 P
abbrev k0:Sk:=[(7,.v)]
def B1 (P:PT):Y k0:=fun x7 H=>
  P x7 H
abbrev k1:Sk:=[(7,.v),(8,J)]
def o3:=O 4066
def B3 (P:PT) (N2:Y k1):Y k1:=fun x7 x8 H=>
  sliceK H 2 x7 (some (I x8)) none 1 (fun v1=>sliceK H 2 x7 none (some (I x8)) 1 (fun v2=>cpK T0 2 H v1 v2 (fun n3 H4=>N2 x7 (i64.wrap (x8+(n3:Int))) H4)))
theorem q3 (P:PT) (N2:Y k1):QD Tryz.prog T0 48 o3 [(0,false),(1,false),(2,false),(3,false),(4,false),(5,false),(6,false),(7,false),(8,false),(9,false)] (En 48 k1 N2) k1 (B3 P N2):=fun _ _ _ _  => by kernel_rfl
def B4 (P:PT) (N2:Y k1):Y k1:=fun x7 x8 H=>
  lenK x7 (fun n1=>pif (decide ((x8:Int)<(n1:Int))) (B3 P N2 x7 x8 H) (B1 P x7 H))
def L2 (P:PT):Y k1:=fun x7 x8 H=>
  ∃ (I:Y k1) (μ:NTy k1 (AHeap→Nat)),I x7 x8 H∧∀ y7 y8 G,I y7 y8 G→B4 P (fun z7 z8 G'=>I z7 z8 G'∧μ z7 z8 G'<μ y7 y8 G) y7 y8 G
theorem l2 P:LQ k1 (L2 P) (B4 P):=fun ⟨_,_,_⟩ _ ⟨I,μ,h0,hI⟩=>⟨apT _ I,apT _ μ,h0,fun ⟨_,_,_⟩ _ h=>hI _ _ _  h⟩
abbrev k2:Sk:=[(0,.v),(7,.v)]
def B5 (P:PT):Y k2:=fun x0 x7 H=>
  cpK T0 2 H x7 x0 (fun n1 H2=>L2 P x7 (n1:Int) H2)
abbrev k3:Sk:=[(0,.v),(6,.i .u64)]
def B6 (P:PT):Y k3:=fun x0 x6 H=>
  mkR H 8 2 [(I 0)] (i64.wrap x6) (i64.wrap x6) (fun v2 H1=>B5 P x0 v2 H1)
abbrev k4:Sk:=[(0,.v),(5,.i .u64),(6,.i .u64)]
def B7 (P:PT):Y k4:=fun x0 x5 x6 H=>
  pif (decide ((x5:Int)>0)) (False) (pif (decide ((x6:Int)>9223372036854775807)) (False) (B6 P x0 x6 H))
abbrev k5:Sk:=[(0,.v),(1,J)]
def B8 (P:PT):Y k5:=fun x0 x1 H=>
  lenK x0 (fun n1=>A 182 [(int .u64 (u64.wrap (n1:Int))),(int .u64 (u64.wrap x1))] H (fun v2 H3=>tup2 v2 (fun v4 v5=>asI .u64 v4 (fun v6=>asI .u64 v5 (fun v7=>B7 P x0 v6 v7 H3)))))
def B9 (P:PT):Y k5:=fun x0 x1 H=>
  pif (decide ((x1:Int)<0)) (False) (B8 P x0 x1 H)
def B10 (P:PT):Y k5:=fun x0 x1 H=>
  B9 P x0 x1 H
def code:Code:=(.seq (R 0 2) (.seq (.seq (R 1 12) (.cond (.tmp 10) (codeAt (bodyOf Tryz.f132) [.r,.l,.r,.l]) .skip)) (.seq (R 3 14) (.seq (.seq (R 4 60) (.cond (.tmp 26) (codeAt (bodyOf Tryz.f132) [.r,.r,.r,.l,.r,.l]) .skip)) (.seq (R 6 62) (.seq (R 7 126) (.seq (.block 0 (.loop (.seq (.seq (R 8 4064) (.cond (.tmp 37) .skip (.exit 0))) (.block 1 (.region 9 ⟨o3⟩ true))))) (.seq (R 10 510) .ret))))))))
theorem body:Tryz.f132.body=some code:=by kernel_rfl
theorem main P:Z 48 k5 (B10 P) code (ret P):=
  (r_seq (b (E k5 (B9 P))) (r_seq (r_seq (b (cnd 10 (fun _ _=>False) (E k5 (B8 P)))) (r_cond rfl r_none r_skip)) (r_seq (b (E k4 (B7 P))) (r_seq (r_seq (b (cnd 26 (fun _ _=>False) (E k3 (B6 P)))) (r_cond rfl r_none r_skip)) (r_seq (b (E k2 (B5 P))) (r_seq (b (E k1 (L2 P))) (r_seq (r_block (rL (l2 P) (fun N2=>(r_seq (r_seq (b (cnd 37 (E k1 (B3 P N2)) (E k0 (B1 P)))) (r_cond rfl r_skip (r_exit (fun _ _ h=>h)))) (r_block (rD T0_ok mixed [(0,false),(1,false),(2,false),(3,false),(4,false),(5,false),(6,false),(7,false),(8,false),(9,false)] (by kernel_rfl) (q3 P N2))))))) (r_seq (b (ret P)) r_ret))))))))
theorem ac (P:PT) (x0:Value) (x1:Int) (H:AHeap) (h:B10 P x0 x1 H):A 132 [x0,(I x1)] H P:=
  r_fn T0_ok (c:=code) (n:=48) Tryz.func132 body (by kernel_rfl) (main P) (En_mk (x0,x1,()) (by kernel_rfl) ⟨by kernel_rfl,by kernel_rfl,trivial⟩ h)

end F132
namespace F133
abbrev E:=En 12
def O (k:Nat):=ob Tryz.f133 (pth k)
abbrev R (i k:Nat):Code:=.region i ⟨O k⟩ false
def ret (P:PT):EP:=retE T0 12 Tryz.f133 P
abbrev k0:Sk:=[(1,J),(2,.x)]
def B1 (P:PT):Y k0:=fun x1 x2 H=>
  li H x2 0 (fun v1=>li H x2 1 (fun v2=>P (I (i64.wrap ((i64.wrap (v1+v2))-x1))) H))
abbrev k1:Sk:=[(0,.g [.i,.i]),(1,J)]
def B2 (P:PT):Y k1:=fun x0a x0b x1 H=>
  newK H [(I x0a),(I x0b)] 66 (fun b1 H2=>B1 P x1 b1 H2)
def code:Code:=(.seq (R 0 2) (.seq (R 1 6) .ret))
theorem body:Tryz.f133.body=some code:=by kernel_rfl
theorem main P:Z 12 k1 (B2 P) code (ret P):=
  (r_seq (b (E k0 (B1 P))) (r_seq (b (ret P)) r_ret))
theorem ac (P:PT) (x0a x0b x1:Int) (H:AHeap) (h:B2 P x0a x0b x1 H):A 133 [(agg ⟨[(I x0a),(I x0b)]⟩),(I x1)] H P:=
  r_fn T0_ok (c:=code) (n:=12) Tryz.func133 body (by kernel_rfl) (main P) (En_mk (x0a,x0b,x1,()) (by kernel_rfl) ⟨by kernel_rfl,by kernel_rfl,trivial⟩ h)

end F133
namespace F139
abbrev E:=En 9
def O (k:Nat):=ob Tryz.f139 (pth k)
abbrev R (i k:Nat):Code:=.region i ⟨O k⟩ false
def ret (P:PT):EP:=retE T0 9 Tryz.f139 P
abbrev k0:Sk:=[(0,.v),(3,.x)]
def B1 (P:PT):Y k0:=fun x0 x3 H=>
  A 187 [x0,(func (.func 188) ⟨[]⟩ ⟨[(pointer (some ⟨x3,0,none⟩))]⟩)] H (fun v1 H2=>asB v1 (fun v3=>P (bool (!v3)) H2))
abbrev k1:Sk:=[(0,.v),(1,.v)]
def B2 (P:PT):Y k1:=fun x0 x1 H=>
  pif (Value.oneCell' x1) (newK H [x1] 148 (fun b1 H2=>B1 P x0 b1 H2)) False
def code:Code:=(.seq (R 0 2) (.seq (R 1 6) .ret))
theorem body:Tryz.f139.body=some code:=by kernel_rfl
theorem main P:Z 9 k1 (B2 P) code (ret P):=
  (r_seq (b (E k0 (B1 P))) (r_seq (b (ret P)) r_ret))
theorem ac (P:PT) (x0 x1:Value) (H:AHeap) (h:B2 P x0 x1 H):A 139 [x0,x1] H P:=
  r_fn T0_ok (c:=code) (n:=9) Tryz.func139 body (by kernel_rfl) (main P) (En_mk (x0,x1,()) (by kernel_rfl) ⟨by kernel_rfl,by kernel_rfl,trivial⟩ h)

end F139
namespace F147
abbrev E:=En 54
def O (k:Nat):=ob Tryz.f147 (pth k)
abbrev R (i k:Nat):Code:=.region i ⟨O k⟩ false
def ret (P:PT):EP:=retE T0 54 Tryz.f147 P
abbrev k0:Sk:=[(3,.v)]
def B1 (P:PT):Y k0:=fun x3 H=>
  P x3 H
abbrev k1:Sk:=[(0,.v),(3,.v),(4,J)]
def B3 (P:PT) (N2:Y k1):Y k1:=fun x0 x3 x4 H=>
  N2 x0 x3 (i64.wrap (x4+1)) H
abbrev k2:Sk:=[(0,.v),(3,.v),(4,J),(5,J)]
def B4 (P:PT) (N2:Y k1):Y k2:=fun x0 x3 x4 x5 H=>
  idxK x0 x4 1 (fun b1 o2=>li H b1 o2 (fun v3=>idxK x3 x5 1 (fun b4 o5=>stK H b4 o5 [(I v3)] (fun H6=>B3 P N2 x0 x3 x4 H6))))
def B6 (P:PT) (N2:Y k1) (N5:Y k2):Y k2:=fun x0 x3 x4 x5 H=>
  N5 x0 x3 x4 (i64.wrap (x5-1)) H
def B7 (P:PT) (N2:Y k1) (N5:Y k2):Y k2:=fun x0 x3 x4 x5 H=>
  idxK x3 (i64.wrap (x5-1)) 1 (fun b1 o2=>li H b1 o2 (fun v3=>idxK x3 x5 1 (fun b4 o5=>stK H b4 o5 [(I v3)] (fun H6=>B6 P N2 N5 x0 x3 x4 x5 H6))))
def o8:=O 119392
def B8 (P:PT) (N2:Y k1) (N5:Y k2):Y k2:=fun x0 x3 x4 x5 H=>
  pif (decide ((x5:Int)>0)) (idxK x3 (i64.wrap (x5-1)) 1 (fun b1 o2=>li H b1 o2 (fun v3=>idxK x0 x4 1 (fun b4 o5=>li H b4 o5 (fun v6=>pif (decide ((v3:Int)>v6)) (B7 P N2 N5 x0 x3 x4 x5 H) (B4 P N2 x0 x3 x4 x5 H)))))) (B4 P N2 x0 x3 x4 x5 H)
theorem q8 (P:PT) (N2:Y k1) (N5:Y k2):QD Tryz.prog T0 54 o8 [(0,false),(1,false),(2,false),(3,false),(4,false),(5,false),(6,false),(7,false),(8,false),(9,false),(10,false),(11,false),(12,false),(13,false)] (cnd 35 (En 54 k2 (B7 P N2 N5)) (En 54 k2 (B4 P N2))) k2 (B8 P N2 N5):=fun _ _ _ _ _ _  => by kernel_rfl
def L5 (P:PT) (N2:Y k1):Y k2:=fun x0 x3 x4 x5 H=>
  ∃ (I:Y k2) (μ:NTy k2 (AHeap→Nat)),I x0 x3 x4 x5 H∧∀ y0 y3 y4 y5 G,I y0 y3 y4 y5 G→B8 P N2 (fun z0 z3 z4 z5 G'=>I z0 z3 z4 z5 G'∧μ z0 z3 z4 z5 G'<μ y0 y3 y4 y5 G) y0 y3 y4 y5 G
theorem l5 P N2:LQ k2 (L5 P N2) (B8 P N2):=fun ⟨_,_,_,_,_⟩ _ ⟨I,μ,h0,hI⟩=>⟨apT _ I,apT _ μ,h0,fun ⟨_,_,_,_,_⟩ _ h=>hI _ _ _ _ _  h⟩
def B9 (P:PT) (N2:Y k1):Y k2:=fun x0 x3 x4 x5 H=>
  idxK x0 x4 1 (fun b1 o2=>li H b1 o2 (fun v3=>newK H [(I v3)] 2 (fun b4 H5=>apK T0 2 H5 x3 (slice (some ⟨b4,0,none⟩) 1 (1+1)) (fun v6 H7=>L5 P N2 x0 v6 x4 x5 H7))))
def B10 (P:PT) (N2:Y k1):Y k1:=fun x0 x3 x4 H=>
  lenK x3 (fun n1=>B9 P N2 x0 x3 x4 (n1:Int) H)
def B11 (P:PT) (N2:Y k1):Y k1:=fun x0 x3 x4 H=>
  lenK x0 (fun n1=>pif (decide ((x4:Int)<(n1:Int))) (B10 P N2 x0 x3 x4 H) (B1 P x3 H))
def L2 (P:PT):Y k1:=fun x0 x3 x4 H=>
  ∃ (I:Y k1) (μ:NTy k1 (AHeap→Nat)),I x0 x3 x4 H∧∀ y0 y3 y4 G,I y0 y3 y4 G→B11 P (fun z0 z3 z4 G'=>I z0 z3 z4 G'∧μ z0 z3 z4 G'<μ y0 y3 y4 G) y0 y3 y4 G
theorem l2 P:LQ k1 (L2 P) (B11 P):=fun ⟨_,_,_,_⟩ _ ⟨I,μ,h0,hI⟩=>⟨apT _ I,apT _ μ,h0,fun ⟨_,_,_,_⟩ _ h=>hI _ _ _ _  h⟩
abbrev k3:Sk:=[(0,.v),(3,.v)]
def B12 (P:PT):Y k3:=fun x0 x3 H=>
  L2 P x0 x3 0 H
abbrev k4:Sk:=[(0,.v)]
def B13 (P:PT):Y k4:=fun x0 H=>
  newK H [] 2 (fun b1 H2=>B12 P x0 (slice (some ⟨b1,0,none⟩) 0 (0+1)) H2)
def B14 (P:PT):Y k4:=fun x0 H=>
  B13 P x0 H
def code:Code:=(.seq (R 0 2) (.seq (R 1 6) (.seq (.seq (R 2 28) (.block 0 (.loop (.seq (.seq (R 3 464) (.cond (.tmp 10) .skip (.exit 0))) (.seq (.block 1 (.seq (R 5 1864) (.seq (R 6 3730) (.seq (.block 2 (.loop (.seq (.seq (.region 7 ⟨o8⟩ true) (.cond (.tmp 35) .skip (.exit 2))) (.block 3 (.seq (R 8 238788) (R 9 238789)))))) (R 10 7463))))) (R 4 467)))))) (.seq (R 11 30) .ret))))
theorem body:Tryz.f147.body=some code:=by kernel_rfl
theorem main P:Z 54 k4 (B14 P) code (ret P):=
  (r_seq (b (E k4 (B13 P))) (r_seq (b (E k3 (B12 P))) (r_seq (r_seq (b (E k1 (L2 P))) (r_block (rL (l2 P) (fun N2=>(r_seq (r_seq (b (cnd 10 (E k1 (B10 P N2)) (E k0 (B1 P)))) (r_cond rfl r_skip (r_exit (fun _ _ h=>h)))) (r_seq (r_block (r_seq (b (E k2 (B9 P N2))) (r_seq (b (E k2 (L5 P N2))) (r_seq (r_block (rL (l5 P N2) (fun N5=>(r_seq (r_seq (rD T0_ok mixed [(0,false),(1,false),(2,false),(3,false),(4,false),(5,false),(6,false),(7,false),(8,false),(9,false),(10,false),(11,false),(12,false),(13,false)] (by kernel_rfl) (q8 P N2 N5)) (r_cond rfl r_skip (r_exit (fun _ _ h=>h)))) (r_block (r_seq (b (E k2 (B6 P N2 N5))) (b (E k2 N5)))))))) (b (E k1 (B3 P N2))))))) (b (E k1 N2)))))))) (r_seq (b (ret P)) r_ret))))
theorem ac (P:PT) (x0:Value) (H:AHeap) (h:B14 P x0 H):A 147 [x0] H P:=
  r_fn T0_ok (c:=code) (n:=54) Tryz.func147 body (by kernel_rfl) (main P) (En_mk (x0,()) (by kernel_rfl) ⟨by kernel_rfl,trivial⟩ h)

end F147
namespace F158
abbrev E:=En 9
def O (k:Nat):=ob Tryz.f158 (pth k)
abbrev R (i k:Nat):Code:=.region i ⟨O k⟩ false
def ret (P:PT):EP:=retE T0 9 Tryz.f158 P
abbrev k0:Sk:=[(0,J),(1,.v),(4,.x)]
def B1 (P:PT):Y k0:=fun x0 x1 x4 H=>
  A 192 [x1] H (fun v1 H2=>pif (Value.oneCell' v1) (stK H2 x4 0 [(I x0),v1] (fun H4=>li H4 x4 0 (fun v5=>ld1 H4 x4 1 (fun v6=>P (agg ⟨[(I v5),v6]⟩) H4)))) False)
abbrev k1:Sk:=[(0,J),(1,.v)]
def B2 (P:PT):Y k1:=fun x0 x1 H=>
  newK H [(I 0),(slice none 0 0)] 26 (fun b1 H2=>B1 P x0 x1 b1 H2)
def code:Code:=(.seq (R 0 2) (.seq (R 1 6) .ret))
theorem body:Tryz.f158.body=some code:=by kernel_rfl
theorem main P:Z 9 k1 (B2 P) code (ret P):=
  (r_seq (b (E k0 (B1 P))) (r_seq (b (ret P)) r_ret))
theorem ac (P:PT) (x0:Int) (x1:Value) (H:AHeap) (h:B2 P x0 x1 H):A 158 [(I x0),x1] H P:=
  r_fn T0_ok (c:=code) (n:=9) Tryz.func158 body (by kernel_rfl) (main P) (En_mk (x0,x1,()) (by kernel_rfl) ⟨by kernel_rfl,by kernel_rfl,trivial⟩ h)

end F158
namespace F159
abbrev E:=En 15
def O (k:Nat):=ob Tryz.f159 (pth k)
abbrev R (i k:Nat):Code:=.region i ⟨O k⟩ false
def ret (P:PT):EP:=retE T0 15 Tryz.f159 P
abbrev k0:Sk:=[(1,J),(2,.x)]
def B1 (P:PT):Y k0:=fun x1 x2 H=>
  li H x2 0 (fun v1=>pif ((v1:Int)==x1) (P (bool true) H) (li H x2 1 (fun v2=>P (bool ((v2:Int)==x1)) H)))
abbrev k1:Sk:=[(0,.g [.i,.i]),(1,J)]
def B2 (P:PT):Y k1:=fun x0a x0b x1 H=>
  newK H [(I x0a),(I x0b)] 66 (fun b1 H2=>B1 P x1 b1 H2)
def code:Code:=(.seq (R 0 2) (.seq (R 1 6) .ret))
theorem body:Tryz.f159.body=some code:=by kernel_rfl
theorem main P:Z 15 k1 (B2 P) code (ret P):=
  (r_seq (b (E k0 (B1 P))) (r_seq (b (ret P)) r_ret))
theorem ac (P:PT) (x0a x0b x1:Int) (H:AHeap) (h:B2 P x0a x0b x1 H):A 159 [(agg ⟨[(I x0a),(I x0b)]⟩),(I x1)] H P:=
  r_fn T0_ok (c:=code) (n:=15) Tryz.func159 body (by kernel_rfl) (main P) (En_mk (x0a,x0b,x1,()) (by kernel_rfl) ⟨by kernel_rfl,by kernel_rfl,trivial⟩ h)

end F159
namespace F160
abbrev E:=En 35
def O (k:Nat):=ob Tryz.f160 (pth k)
abbrev R (i k:Nat):Code:=.region i ⟨O k⟩ false
def ret (P:PT):EP:=retE T0 35 Tryz.f160 P
abbrev k0:Sk:=[(0,.i .u64)]
def B1 (P:PT):Y k0:=fun x0 H=>
  P (I (i64.wrap (BitVec.ofInt 64 (i64.wrap x0)&&&BitVec.ofInt 64 127).toNat)) H
def B2 (P:PT):Y k0:=fun x0 H=>
  ((0:Int)≤32)∧(B1 P (u64.wrap (x0+(Int.fdiv x0 (2^(min (Int.toNat 32) 64))))) H)
def B3 (P:PT):Y k0:=fun x0 H=>
  ((0:Int)≤16)∧(B2 P (u64.wrap (x0+(Int.fdiv x0 (2^(min (Int.toNat 16) 64))))) H)
def B4 (P:PT):Y k0:=fun x0 H=>
  ((0:Int)≤8)∧(B3 P (u64.wrap (x0+(Int.fdiv x0 (2^(min (Int.toNat 8) 64))))) H)
def B5 (P:PT):Y k0:=fun x0 H=>
  ((0:Int)≤4)∧(B4 P (u64.wrap (BitVec.ofInt 64 (u64.wrap ((Int.fdiv x0 (2^(min (Int.toNat 4) 64)))+x0))&&&BitVec.ofInt 64 1085102592571150095).toNat) H)
def B6 (P:PT):Y k0:=fun x0 H=>
  ((0:Int)≤2)∧(B5 P (u64.wrap ((u64.wrap (BitVec.ofInt 64 (Int.fdiv x0 (2^(min (Int.toNat 2) 64)))&&&BitVec.ofInt 64 3689348814741910323).toNat)+(u64.wrap (BitVec.ofInt 64 x0&&&BitVec.ofInt 64 3689348814741910323).toNat))) H)
def B7 (P:PT):Y k0:=fun x0 H=>
  ((0:Int)≤1)∧(B6 P (u64.wrap ((u64.wrap (BitVec.ofInt 64 (Int.fdiv x0 (2^(min (Int.toNat 1) 64)))&&&BitVec.ofInt 64 6148914691236517205).toNat)+(u64.wrap (BitVec.ofInt 64 x0&&&BitVec.ofInt 64 6148914691236517205).toNat))) H)
def B8 (P:PT):Y k0:=fun x0 H=>
  B7 P x0 H
def code:Code:=(.seq (R 0 2) (.seq (R 1 6) (.seq (R 2 14) (.seq (R 3 30) (.seq (R 4 62) (.seq (R 5 126) (.seq (R 6 254) (.seq (R 7 510) .ret))))))))
theorem body:Tryz.f160.body=some code:=by kernel_rfl
theorem main P:Z 35 k0 (B8 P) code (ret P):=
  (r_seq (b (E k0 (B7 P))) (r_seq (b (E k0 (B6 P))) (r_seq (b (E k0 (B5 P))) (r_seq (b (E k0 (B4 P))) (r_seq (b (E k0 (B3 P))) (r_seq (b (E k0 (B2 P))) (r_seq (b (E k0 (B1 P))) (r_seq (b (ret P)) r_ret))))))))
theorem ac (P:PT) (x0:Int) (H:AHeap) (h:B8 P x0 H):A 160 [(int .u64 x0)] H P:=
  r_fn T0_ok (c:=code) (n:=35) Tryz.func160 body (by kernel_rfl) (main P) (En_mk (x0,()) (by kernel_rfl) ⟨by kernel_rfl,trivial⟩ h)

end F160
namespace F161
abbrev E:=En 20
def O (k:Nat):=ob Tryz.f161 (pth k)
abbrev R (i k:Nat):Code:=.region i ⟨O k⟩ false
def ret (P:PT):EP:=retE T0 20 Tryz.f161 P
abbrev k0:Sk:=[(1,.v),(2,.x)]
def o1:=O 6
def B1 (P:PT):Y k0:=fun x1 x2 H=>
  li H x2 0 (fun v1=>A 193 [(I v1)] H (fun v2 H3=>asB v2 (fun v4=>pif v4 (li H3 x2 0 (fun v5=>A 55 [x1] H3 (fun v6 H7=>asI .i64 v6 (fun v8=>(AHeap.le H3 H7)∧(pif ((v8:Int)==(i64.wrap (Int.tdiv (i64.wrap (3*v5)) 2))) (A 162 [x1,(func (.func 194) ⟨[]⟩ ⟨[(pointer (some ⟨x2,0,none⟩))]⟩)] H7 (fun v9 H10=>asB v9 (fun v11=>P (bool v11) H10))) (P (bool false) H7)))))) (P (bool false) H3))))
theorem q1 (P:PT):QD Tryz.prog T0 20 o1 [(0,false),(1,false),(2,false),(3,false),(5,false),(6,false),(7,false),(4,true),(8,false),(9,false),(10,false),(11,false),(12,false),(13,false),(14,false),(15,false)] (ret P) k0 (B1 P):=fun _ _ _ _  => by kernel_rfl
abbrev k1:Sk:=[(0,J),(1,.v)]
def B2 (P:PT):Y k1:=fun x0 x1 H=>
  newK H [(I x0)] 2 (fun b1 H2=>B1 P x1 b1 H2)
def code:Code:=(.seq (R 0 2) (.seq (.region 1 ⟨o1⟩ true) .ret))
theorem body:Tryz.f161.body=some code:=by kernel_rfl
theorem main P:Z 20 k1 (B2 P) code (ret P):=
  (r_seq (b (E k0 (B1 P))) (r_seq (rD T0_ok mixed [(0,false),(1,false),(2,false),(3,false),(5,false),(6,false),(7,false),(4,true),(8,false),(9,false),(10,false),(11,false),(12,false),(13,false),(14,false),(15,false)] (by kernel_rfl) (q1 P)) r_ret))
theorem ac (P:PT) (x0:Int) (x1:Value) (H:AHeap) (h:B2 P x0 x1 H):A 161 [(I x0),x1] H P:=
  r_fn T0_ok (c:=code) (n:=20) Tryz.func161 body (by kernel_rfl) (main P) (En_mk (x0,x1,()) (by kernel_rfl) ⟨by kernel_rfl,by kernel_rfl,trivial⟩ h)

end F161
namespace F162
abbrev E:=En 9
def O (k:Nat):=ob Tryz.f162 (pth k)
abbrev R (i k:Nat):Code:=.region i ⟨O k⟩ false
def ret (P:PT):EP:=retE T0 9 Tryz.f162 P
abbrev k0:Sk:=[(0,.v),(3,.x)]
def B1 (P:PT):Y k0:=fun x0 x3 H=>
  A 195 [x0,(func (.func 196) ⟨[]⟩ ⟨[(pointer (some ⟨x3,0,none⟩))]⟩)] H (fun v1 H2=>asB v1 (fun v3=>P (bool (!v3)) H2))
abbrev k1:Sk:=[(0,.v),(1,.v)]
def B2 (P:PT):Y k1:=fun x0 x1 H=>
  pif (Value.oneCell' x1) (newK H [x1] 161 (fun b1 H2=>B1 P x0 b1 H2)) False
def code:Code:=(.seq (R 0 2) (.seq (R 1 6) .ret))
theorem body:Tryz.f162.body=some code:=by kernel_rfl
theorem main P:Z 9 k1 (B2 P) code (ret P):=
  (r_seq (b (E k0 (B1 P))) (r_seq (b (ret P)) r_ret))
theorem ac (P:PT) (x0 x1:Value) (H:AHeap) (h:B2 P x0 x1 H):A 162 [x0,x1] H P:=
  r_fn T0_ok (c:=code) (n:=9) Tryz.func162 body (by kernel_rfl) (main P) (En_mk (x0,x1,()) (by kernel_rfl) ⟨by kernel_rfl,by kernel_rfl,trivial⟩ h)

end F162
namespace F163
abbrev E:=En 8
def O (k:Nat):=ob Tryz.f163 (pth k)
abbrev R (i k:Nat):Code:=.region i ⟨O k⟩ false
def ret (P:PT):EP:=retE T0 8 Tryz.f163 P
abbrev k0:Sk:=[(1,.x)]
def B1 (P:PT):Y k0:=fun x1 H=>
  li H x1 0 (fun v1=>li H x1 1 (fun v2=>P (bool (decide ((v1:Int)<v2))) H))
abbrev k1:Sk:=[(0,.g [.i,.i])]
def B2 (P:PT):Y k1:=fun x0a x0b H=>
  newK H [(I x0a),(I x0b)] 66 (fun b1 H2=>B1 P b1 H2)
def code:Code:=(.seq (R 0 2) (.seq (R 1 6) .ret))
theorem body:Tryz.f163.body=some code:=by kernel_rfl
theorem main P:Z 8 k1 (B2 P) code (ret P):=
  (r_seq (b (E k0 (B1 P))) (r_seq (b (ret P)) r_ret))
theorem ac (P:PT) (x0a x0b:Int) (H:AHeap) (h:B2 P x0a x0b H):A 163 [(agg ⟨[(I x0a),(I x0b)]⟩)] H P:=
  r_fn T0_ok (c:=code) (n:=8) Tryz.func163 body (by kernel_rfl) (main P) (En_mk (x0a,x0b,()) (by kernel_rfl) ⟨by kernel_rfl,trivial⟩ h)

end F163
namespace F164
abbrev E:=En 25
def O (k:Nat):=ob Tryz.f164 (pth k)
abbrev R (i k:Nat):Code:=.region i ⟨O k⟩ false
def ret (P:PT):EP:=retE T0 25 Tryz.f164 P
abbrev k0:Sk:=[]
def B1 (P:PT):Y k0:=fun H=>
  P (bool true) H
abbrev k1:Sk:=[(0,.v),(1,.v),(5,J)]
def B3 (P:PT) (N2:Y k1):Y k1:=fun x0 x1 x5 H=>
  N2 x0 x1 (i64.wrap (x5-1)) H
def B4 (P:PT) (N2:Y k1):Y k0:=fun H=>
  P (bool false) H
def o5:=O 840
def B5 (P:PT) (N2:Y k1):Y k1:=fun x0 x1 x5 H=>
  idxK x0 x5 2 (fun b1 o2=>li H b1 o2 (fun v3=>li H b1 (o2+1) (fun v4=>idxK x0 (i64.wrap (x5-1)) 2 (fun b5 o6=>li H b5 o6 (fun v7=>li H b5 (o6+1) (fun v8=>callV Tryz.prog T0 x1 [(agg ⟨[(I v3),(I v4)]⟩),(agg ⟨[(I v7),(I v8)]⟩)] H (fun v9 H10=>asI .i64 v9 (fun v11=>pif (decide ((v11:Int)<0)) (B4 P N2 H10) (B3 P N2 x0 x1 x5 H10)))))))))
theorem q5 (P:PT) (N2:Y k1):QD Tryz.prog T0 25 o5 [(0,false),(1,false),(2,false),(3,false),(4,false),(5,false),(6,false),(7,false),(8,false),(9,false),(10,false),(11,false)] (cnd 24 (En 25 k0 (B4 P N2)) (En 25 k1 (B3 P N2))) k1 (B5 P N2):=fun _ _ _ _ _  => by kernel_rfl
def o6:=O 208
def B6 (P:PT) (N2:Y k1):Y k1:=fun x0 x1 x5 H=>
  pif (decide ((x5:Int)>0)) (B5 P N2 x0 x1 x5 H) (B1 P H)
def L2 (P:PT):Y k1:=fun x0 x1 x5 H=>
  ∃ (I:Y k1) (μ:NTy k1 (AHeap→Nat)),I x0 x1 x5 H∧∀ y0 y1 y5 G,I y0 y1 y5 G→B6 P (fun z0 z1 z5 G'=>I z0 z1 z5 G'∧μ z0 z1 z5 G'<μ y0 y1 y5 G) y0 y1 y5 G
theorem l2 P:LQ k1 (L2 P) (B6 P):=fun ⟨_,_,_,_⟩ _ ⟨I,μ,h0,hI⟩=>⟨apT _ I,apT _ μ,h0,fun ⟨_,_,_,_⟩ _ h=>hI _ _ _ _  h⟩
abbrev k2:Sk:=[(0,.v),(1,.v)]
def B7 (P:PT):Y k2:=fun x0 x1 H=>
  lenK x0 (fun n1=>L2 P x0 x1 (i64.wrap ((n1:Int)-1)) H)
def B8 (P:PT):Y k2:=fun x0 x1 H=>
  B7 P x0 x1 H
def code:Code:=(.seq (R 0 2) (.seq (.seq (R 1 12) (.block 0 (.loop (.seq (.seq (R 2 208) (.cond (.tmp 10) .skip (.exit 0))) (.seq (.block 1 (.seq (.region 4 ⟨o5⟩ true) (.cond (.tmp 24) (.seq (R 5 3364) .ret) .skip))) (R 3 211)))))) (.seq (R 6 14) .ret)))
theorem body:Tryz.f164.body=some code:=by kernel_rfl
theorem main P:Z 25 k2 (B8 P) code (ret P):=
  (r_seq (b (E k2 (B7 P))) (r_seq (r_seq (b (E k1 (L2 P))) (r_block (rL (l2 P) (fun N2=>(r_seq (r_seq (b (cnd 10 (E k1 (B5 P N2)) (E k0 (B1 P)))) (r_cond rfl r_skip (r_exit (fun _ _ h=>h)))) (r_seq (r_block (r_seq (rD T0_ok mixed [(0,false),(1,false),(2,false),(3,false),(4,false),(5,false),(6,false),(7,false),(8,false),(9,false),(10,false),(11,false)] (by kernel_rfl) (q5 P N2)) (r_cond rfl (r_seq (b (ret P)) r_ret) r_skip))) (b (E k1 N2)))))))) (r_seq (b (ret P)) r_ret)))
theorem ac (P:PT) (x0 x1:Value) (H:AHeap) (h:B8 P x0 x1 H):A 164 [x0,x1] H P:=
  r_fn T0_ok (c:=code) (n:=25) Tryz.func164 body (by kernel_rfl) (main P) (En_mk (x0,x1,()) (by kernel_rfl) ⟨by kernel_rfl,by kernel_rfl,trivial⟩ h)

end F164
namespace F165
abbrev E:=En 8
def O (k:Nat):=ob Tryz.f165 (pth k)
abbrev R (i k:Nat):Code:=.region i ⟨O k⟩ false
def ret (P:PT):EP:=retE T0 8 Tryz.f165 P
abbrev k0:Sk:=[(2,.x),(3,.x)]
def o1:=O 6
def B1 (P:PT):Y k0:=fun x2 x3 H=>
  A 126 [(slice (some ⟨x2,0,none⟩) 2 (2+1)),(slice (some ⟨x3,0,none⟩) 2 (2+1))] H (fun v1 H2=>asI .i64 v1 (fun v3=>P (I v3) H2))
theorem q1 (P:PT):QD Tryz.prog T0 8 o1 [(0,false),(1,false),(2,false),(3,false)] (ret P) k0 (B1 P):=fun _ _ _ _  => by kernel_rfl
abbrev k1:Sk:=[(0,.g [.i,.i]),(1,.g [.i,.i])]
def B2 (P:PT):Y k1:=fun x0a x0b x1a x1b H=>
  newK H [(I x0a),(I x0b)] 66 (fun b1 H2=>newK H2 [(I x1a),(I x1b)] 66 (fun b3 H4=>B1 P b1 b3 H4))
def code:Code:=(.seq (R 0 2) (.seq (.region 1 ⟨o1⟩ true) .ret))
theorem body:Tryz.f165.body=some code:=by kernel_rfl
theorem main P:Z 8 k1 (B2 P) code (ret P):=
  (r_seq (b (E k0 (B1 P))) (r_seq (rD T0_ok mixed [(0,false),(1,false),(2,false),(3,false)] (by kernel_rfl) (q1 P)) r_ret))
theorem ac (P:PT) (x0a x0b x1a x1b:Int) (H:AHeap) (h:B2 P x0a x0b x1a x1b H):A 165 [(agg ⟨[(I x0a),(I x0b)]⟩),(agg ⟨[(I x1a),(I x1b)]⟩)] H P:=
  r_fn T0_ok (c:=code) (n:=8) Tryz.func165 body (by kernel_rfl) (main P) (En_mk (x0a,x0b,x1a,x1b,()) (by kernel_rfl) ⟨by kernel_rfl,by kernel_rfl,trivial⟩ h)

end F165
namespace F166
abbrev E:=En 33
def O (k:Nat):=ob Tryz.f166 (pth k)
abbrev R (i k:Nat):Code:=.region i ⟨O k⟩ false
def ret (P:PT):EP:=retE T0 33 Tryz.f166 P
abbrev k0:Sk:=[(5,.v)]
def B1 (P:PT):Y k0:=fun x5 H=>
  A 139 [x5,(func (.func 197) ⟨[]⟩ ⟨[]⟩)] H (fun v1 H2=>asB v1 (fun v3=>P (bool v3) H2))
abbrev k1:Sk:=[(5,.v),(10,.v),(11,J),(12,J)]
def o3:=O 935
def B3 (P:PT) (N2:Y k1):Y k1:=fun x5 x10 x11 x12 H=>
  N2 x5 x10 x11 (i64.wrap (x12+1)) H
abbrev k2:Sk:=[(5,.v),(7,.x),(10,.v),(11,J),(12,J)]
def B4 (P:PT) (N2:Y k1):Y k2:=fun x5 x7 x10 x11 x12 H=>
  li H x7 1 (fun v1=>idxK x5 v1 1 (fun b2 o3=>li H b2 o3 (fun v4=>idxK x5 v1 1 (fun b5 o6=>stK H b5 o6 [(I (i64.wrap (v4+1)))] (fun H7=>B3 P N2 x5 x10 x11 x12 H7)))))
def B5 (P:PT) (N2:Y k1):Y k2:=fun x5 x7 x10 x11 x12 H=>
  li H x7 0 (fun v1=>idxK x5 v1 1 (fun b2 o3=>li H b2 o3 (fun v4=>idxK x5 v1 1 (fun b5 o6=>stK H b5 o6 [(I (i64.wrap (v4+1)))] (fun H7=>B4 P N2 x5 x7 x10 x11 x12 H7)))))
def o6:=O 3736
def B6 (P:PT) (N2:Y k1):Y k1:=fun x5 x10 x11 x12 H=>
  idxK x10 x12 2 (fun b1 o2=>li H b1 o2 (fun v3=>li H b1 (o2+1) (fun v4=>newK H [(I 0),(I 0)] 66 (fun b5 H6=>stK H6 b5 0 [(I v3),(I v4)] (fun H7=>B5 P N2 x5 b5 x10 x11 x12 H7)))))
def B7 (P:PT) (N2:Y k1):Y k1:=fun x5 x10 x11 x12 H=>
  pif (decide ((x12:Int)<x11)) (B6 P N2 x5 x10 x11 x12 H) (B1 P x5 H)
def L2 (P:PT):Y k1:=fun x5 x10 x11 x12 H=>
  ∃ (I:Y k1) (μ:NTy k1 (AHeap→Nat)),I x5 x10 x11 x12 H∧∀ y5 y10 y11 y12 G,I y5 y10 y11 y12 G→B7 P (fun z5 z10 z11 z12 G'=>I z5 z10 z11 z12 G'∧μ z5 z10 z11 z12 G'<μ y5 y10 y11 y12 G) y5 y10 y11 y12 G
theorem l2 P:LQ k1 (L2 P) (B7 P):=fun ⟨_,_,_,_,_⟩ _ ⟨I,μ,h0,hI⟩=>⟨apT _ I,apT _ μ,h0,fun ⟨_,_,_,_,_⟩ _ h=>hI _ _ _ _ _  h⟩
abbrev k3:Sk:=[(1,.v),(5,.v)]
def B8 (P:PT):Y k3:=fun x1 x5 H=>
  lenK x1 (fun n1=>L2 P x5 x1 (n1:Int) 0 H)
abbrev k4:Sk:=[(0,J),(1,.v)]
def B9 (P:PT):Y k4:=fun x0 x1 H=>
  mkR H 8 3 [(I 0)] x0 x0 (fun v2 H1=>B8 P x1 v2 H1)
def B10 (P:PT):Y k4:=fun x0 x1 H=>
  B9 P x0 x1 H
def code:Code:=(.seq (R 0 2) (.seq (R 1 6) (.seq (.seq (R 2 28) (.block 0 (.loop (.seq (R 3 232) (.seq (.cond (.tmp 13) .skip (.exit 0)) (.seq (.block 1 (.seq (R 4 3736) (.seq (R 5 7474) (R 6 7475)))) (R 7 935))))))) (.seq (R 8 30) .ret))))
theorem body:Tryz.f166.body=some code:=by kernel_rfl
theorem main P:Z 33 k4 (B10 P) code (ret P):=
  (r_seq (b (E k4 (B9 P))) (r_seq (b (E k3 (B8 P))) (r_seq (r_seq (b (E k1 (L2 P))) (r_block (rL (l2 P) (fun N2=>(r_seq (b (cnd 13 (E k1 (B6 P N2)) (E k0 (B1 P)))) (r_seq (r_cond rfl r_skip (r_exit (fun _ _ h=>h))) (r_seq (r_block (r_seq (b (E k2 (B5 P N2))) (r_seq (b (E k2 (B4 P N2))) (b (E k1 (B3 P N2)))))) (b (E k1 N2))))))))) (r_seq (b (ret P)) r_ret))))
theorem ac (P:PT) (x0:Int) (x1:Value) (H:AHeap) (h:B10 P x0 x1 H):A 166 [(I x0),x1] H P:=
  r_fn T0_ok (c:=code) (n:=33) Tryz.func166 body (by kernel_rfl) (main P) (En_mk (x0,x1,()) (by kernel_rfl) ⟨by kernel_rfl,by kernel_rfl,trivial⟩ h)

end F166
namespace F167
abbrev E:=En 29
def O (k:Nat):=ob Tryz.f167 (pth k)
abbrev R (i k:Nat):Code:=.region i ⟨O k⟩ false
def ret (P:PT):EP:=retE T0 29 Tryz.f167 P
abbrev k0:Sk:=[(0,.v)]
def B1 (P:PT):Y k0:=fun x0 H=>
  P x0 H
abbrev k1:Sk:=[(0,.v),(1,.v),(5,J)]
def B3 (P:PT) (N2:Y k1):Y k1:=fun x0 x1 x5 H=>
  N2 x0 x1 (i64.wrap (x5+1)) H
def o4:=O 420
def B4 (P:PT) (N2:Y k1):Y k1:=fun x0 x1 x5 H=>
  idxK x1 x5 1 (fun b1 o2=>li H b1 o2 (fun v3=>lenK x1 (fun n4=>nzK (n4:Int) (idxK x1 (Int.tmod (i64.wrap (x5+1)) (n4:Int)) 1 (fun b5 o6=>li H b5 o6 (fun v7=>newK H [(I v3),(I v7)] 66 (fun b8 H9=>apK T0 66 H9 x0 (slice (some ⟨b8,0,none⟩) 1 (1+1)) (fun v10 H11=>B3 P N2 v10 x1 x5 H11))))))))
theorem q4 (P:PT) (N2:Y k1):QD Tryz.prog T0 29 o4 [(0,false),(1,false),(2,false),(3,false),(4,false),(5,false),(6,false),(7,false),(8,false),(9,false),(10,false),(11,false),(12,false),(13,false),(14,false),(15,false),(16,false)] (En 29 k1 (B3 P N2)) k1 (B4 P N2):=fun _ _ _ _ _  => by kernel_rfl
def B5 (P:PT) (N2:Y k1):Y k1:=fun x0 x1 x5 H=>
  lenK x1 (fun n1=>pif (decide ((x5:Int)<(n1:Int))) (B4 P N2 x0 x1 x5 H) (B1 P x0 H))
def L2 (P:PT):Y k1:=fun x0 x1 x5 H=>
  ∃ (I:Y k1) (μ:NTy k1 (AHeap→Nat)),I x0 x1 x5 H∧∀ y0 y1 y5 G,I y0 y1 y5 G→B5 P (fun z0 z1 z5 G'=>I z0 z1 z5 G'∧μ z0 z1 z5 G'<μ y0 y1 y5 G) y0 y1 y5 G
theorem l2 P:LQ k1 (L2 P) (B5 P):=fun ⟨_,_,_,_⟩ _ ⟨I,μ,h0,hI⟩=>⟨apT _ I,apT _ μ,h0,fun ⟨_,_,_,_⟩ _ h=>hI _ _ _ _  h⟩
abbrev k2:Sk:=[(0,.v),(1,.v)]
def o6:=O 12
def B6 (P:PT):Y k2:=fun x0 x1 H=>
  L2 P x0 x1 0 H
def B7 (P:PT):Y k2:=fun x0 x1 H=>
  B6 P x0 x1 H
def code:Code:=(.seq (R 0 2) (.seq (.seq (R 1 12) (.block 0 (.loop (.seq (.seq (R 2 208) (.cond (.tmp 9) .skip (.exit 0))) (.seq (.block 1 (.region 4 ⟨o4⟩ true)) (R 3 211)))))) (.seq (R 5 14) .ret)))
theorem body:Tryz.f167.body=some code:=by kernel_rfl
theorem main P:Z 29 k2 (B7 P) code (ret P):=
  (r_seq (b (E k2 (B6 P))) (r_seq (r_seq (b (E k1 (L2 P))) (r_block (rL (l2 P) (fun N2=>(r_seq (r_seq (b (cnd 9 (E k1 (B4 P N2)) (E k0 (B1 P)))) (r_cond rfl r_skip (r_exit (fun _ _ h=>h)))) (r_seq (r_block (rD T0_ok mixed [(0,false),(1,false),(2,false),(3,false),(4,false),(5,false),(6,false),(7,false),(8,false),(9,false),(10,false),(11,false),(12,false),(13,false),(14,false),(15,false),(16,false)] (by kernel_rfl) (q4 P N2))) (b (E k1 N2)))))))) (r_seq (b (ret P)) r_ret)))
theorem ac (P:PT) (x0 x1:Value) (H:AHeap) (h:B7 P x0 x1 H):A 167 [x0,x1] H P:=
  r_fn T0_ok (c:=code) (n:=29) Tryz.func167 body (by kernel_rfl) (main P) (En_mk (x0,x1,()) (by kernel_rfl) ⟨by kernel_rfl,by kernel_rfl,trivial⟩ h)

end F167
namespace F168
abbrev E:=En 6
def O (k:Nat):=ob Tryz.f168 (pth k)
abbrev R (i k:Nat):Code:=.region i ⟨O k⟩ false
def ret (P:PT):EP:=retE T0 6 Tryz.f168 P
abbrev k0:Sk:=[(0,.v)]
def B1 (P:PT):Y k0:=fun x0 H=>
  newK H [] 2 (fun b1 H2=>apK T0 2 H2 (slice (some ⟨b1,0,none⟩) 0 (0+1)) x0 (fun v3 H4=>P v3 H4))
def B2 (P:PT):Y k0:=fun x0 H=>
  B1 P x0 H
def code:Code:=(.seq (R 0 2) (.seq (R 1 6) .ret))
theorem body:Tryz.f168.body=some code:=by kernel_rfl
theorem main P:Z 6 k0 (B2 P) code (ret P):=
  (r_seq (b (E k0 (B1 P))) (r_seq (b (ret P)) r_ret))
theorem ac (P:PT) (x0:Value) (H:AHeap) (h:B2 P x0 H):A 168 [x0] H P:=
  r_fn T0_ok (c:=code) (n:=6) Tryz.func168 body (by kernel_rfl) (main P) (En_mk (x0,()) (by kernel_rfl) ⟨by kernel_rfl,trivial⟩ h)

end F168
namespace F169
abbrev E:=En 88
def O (k:Nat):=ob Tryz.f169 (pth k)
abbrev R (i k:Nat):Code:=.region i ⟨O k⟩ false
def ret (P:PT):EP:=retE T0 88 Tryz.f169 P
abbrev k0:Sk:=[(7,.v)]
def B1 (P:PT):Y k0:=fun x7 H=>
  P x7 H
abbrev k1:Sk:=[(2,J),(3,.x),(7,.v),(9,.v),(10,J)]
def B3 (P:PT) (N2:Y k1):Y k1:=fun x2 x3 x7 x9 x10 H=>
  N2 x2 x3 x7 x9 (i64.wrap (x10+1)) H
abbrev k2:Sk:=[(2,J),(3,.x),(7,.v),(9,.v),(10,J),(11,.v),(12,J)]
def o5:=O 518451
def B5 (P:PT) (N2:Y k1) (N4:Y k2):Y k2:=fun x2 x3 x7 x9 x10 x11 x12 H=>
  N4 x2 x3 x7 x9 x10 x11 (i64.wrap (x12+1)) H
abbrev k3:Sk:=[(2,J),(3,.x),(7,.v),(9,.v),(10,J),(11,.v),(12,J),(13,J)]
def B6 (P:PT) (N2:Y k1) (N4:Y k2):Y k3:=fun x2 x3 x7 x9 x10 x11 x12 x13 H=>
  newK H [(I x13)] 2 (fun b1 H2=>apK T0 2 H2 x9 (slice (some ⟨b1,0,none⟩) 1 (1+1)) (fun v3 H4=>B5 P N2 N4 x2 x3 x7 v3 x10 x11 x12 H4))
def o7:=O 16590412
def B7 (P:PT) (N2:Y k1) (N4:Y k2):Y k3:=fun x2 x3 x7 x9 x10 x11 x12 x13 H=>
  idxK x9 x10 1 (fun b1 o2=>li H b1 o2 (fun v3=>idxK x7 v3 1 (fun b4 o5=>li H b4 o5 (fun v6=>idxK x7 x13 1 (fun b7 o8=>stK H b7 o8 [(I (i64.wrap (v6+1)))] (fun H9=>B6 P N2 N4 x2 x3 x7 x9 x10 x11 x12 x13 H9))))))
def o8:=O 4147602
def B8 (P:PT) (N2:Y k1) (N4:Y k2):Y k3:=fun x2 x3 x7 x9 x10 x11 x12 x13 H=>
  idxK x11 x12 1 (fun b1 o2=>li H b1 o2 (fun v3=>pif ((v3:Int) != x2) (idxK x7 x13 1 (fun b4 o5=>li H b4 o5 (fun v6=>pif (decide ((v6:Int)<0)) (B7 P N2 N4 x2 x3 x7 x9 x10 x11 x12 x13 H) (B5 P N2 N4 x2 x3 x7 x9 x10 x11 x12 H)))) (B5 P N2 N4 x2 x3 x7 x9 x10 x11 x12 H)))
def o9:=O 2073800
def B9 (P:PT) (N2:Y k1) (N4:Y k2):Y k2:=fun x2 x3 x7 x9 x10 x11 x12 H=>
  li H x3 0 (fun v1=>ld1 H x3 1 (fun v2=>idxK x11 x12 1 (fun b3 o4=>li H b3 o4 (fun v5=>idxK x9 x10 1 (fun b6 o7=>li H b6 o7 (fun v8=>A 170 [(agg ⟨[(I v1),v2]⟩),(I v5),(I v8)] H (fun v9 H10=>asI .i64 v9 (fun v11=>B8 P N2 N4 x2 x3 x7 x9 x10 x11 x12 v11 H10))))))))
theorem q9 (P:PT) (N2:Y k1) (N4:Y k2):QD Tryz.prog T0 88 o9 [(0,false),(1,false),(2,false),(3,false),(4,false),(5,false),(6,false),(7,false),(8,false),(9,false),(10,false)] (En 88 k3 (B8 P N2 N4)) k2 (B9 P N2 N4):=fun _ _ _ _ _ _ _ _ _  => by kernel_rfl
def B10 (P:PT) (N2:Y k1) (N4:Y k2):Y k2:=fun x2 x3 x7 x9 x10 x11 x12 H=>
  lenK x11 (fun n1=>pif (decide ((x12:Int)<(n1:Int))) (B9 P N2 N4 x2 x3 x7 x9 x10 x11 x12 H) (B3 P N2 x2 x3 x7 x9 x10 H))
def L4 (P:PT) (N2:Y k1):Y k2:=fun x2 x3 x7 x9 x10 x11 x12 H=>
  ∃ (I:Y k2) (μ:NTy k2 (AHeap→Nat)),I x2 x3 x7 x9 x10 x11 x12 H∧∀ y2 y3 y7 y9 y10 y11 y12 G,I y2 y3 y7 y9 y10 y11 y12 G→B10 P N2 (fun z2 z3 z7 z9 z10 z11 z12 G'=>I z2 z3 z7 z9 z10 z11 z12 G'∧μ z2 z3 z7 z9 z10 z11 z12 G'<μ y2 y3 y7 y9 y10 y11 y12 G) y2 y3 y7 y9 y10 y11 y12 G
theorem l4 P N2:LQ k2 (L4 P N2) (B10 P N2):=fun ⟨_,_,_,_,_,_,_,_⟩ _ ⟨I,μ,h0,hI⟩=>⟨apT _ I,apT _ μ,h0,fun ⟨_,_,_,_,_,_,_,_⟩ _ h=>hI _ _ _ _ _ _ _ _  h⟩
abbrev k4:Sk:=[(2,J),(3,.x),(7,.v),(9,.v),(10,J),(11,.v)]
def B11 (P:PT) (N2:Y k1):Y k4:=fun x2 x3 x7 x9 x10 x11 H=>
  L4 P N2 x2 x3 x7 x9 x10 x11 0 H
def o12:=O 16200
def B12 (P:PT) (N2:Y k1):Y k1:=fun x2 x3 x7 x9 x10 H=>
  li H x3 0 (fun v1=>ld1 H x3 1 (fun v2=>idxK x9 x10 1 (fun b3 o4=>li H b3 o4 (fun v5=>A 82 [(agg ⟨[(I v1),v2]⟩),(I v5)] H (fun v6 H7=>B11 P N2 x2 x3 x7 x9 x10 v6 H7)))))
theorem q12 (P:PT) (N2:Y k1):QD Tryz.prog T0 88 o12 [(0,false),(1,false),(2,false),(3,false),(4,false),(5,false),(6,false)] (En 88 k4 (B11 P N2)) k1 (B12 P N2):=fun _ _ _ _ _ _ _  => by kernel_rfl
def B13 (P:PT) (N2:Y k1):Y k1:=fun x2 x3 x7 x9 x10 H=>
  lenK x9 (fun n1=>pif (decide ((x10:Int)<(n1:Int))) (B12 P N2 x2 x3 x7 x9 x10 H) (B1 P x7 H))
def L2 (P:PT):Y k1:=fun x2 x3 x7 x9 x10 H=>
  ∃ (I:Y k1) (μ:NTy k1 (AHeap→Nat)),I x2 x3 x7 x9 x10 H∧∀ y2 y3 y7 y9 y10 G,I y2 y3 y7 y9 y10 G→B13 P (fun z2 z3 z7 z9 z10 G'=>I z2 z3 z7 z9 z10 G'∧μ z2 z3 z7 z9 z10 G'<μ y2 y3 y7 y9 y10 G) y2 y3 y7 y9 y10 G
theorem l2 P:LQ k1 (L2 P) (B13 P):=fun ⟨_,_,_,_,_,_⟩ _ ⟨I,μ,h0,hI⟩=>⟨apT _ I,apT _ μ,h0,fun ⟨_,_,_,_,_,_⟩ _ h=>hI _ _ _ _ _ _  h⟩
abbrev k5:Sk:=[(2,J),(3,.x),(7,.v),(9,.v)]
def B14 (P:PT):Y k5:=fun x2 x3 x7 x9 H=>
  L2 P x2 x3 x7 x9 0 H
abbrev k6:Sk:=[(1,J),(2,J),(3,.x),(7,.v)]
def B15 (P:PT):Y k6:=fun x1 x2 x3 x7 H=>
  newK H [(I x1)] 2 (fun b1 H2=>B14 P x2 x3 x7 (slice (some ⟨b1,0,none⟩) 1 (1+1)) H2)
def B16 (P:PT):Y k6:=fun x1 x2 x3 x7 H=>
  idxK x7 x1 1 (fun b1 o2=>stK H b1 o2 [(I 0)] (fun H3=>B15 P x1 x2 x3 x7 H3))
abbrev k7:Sk:=[(1,J),(2,J),(3,.x),(7,.v),(8,J)]
def B18 (P:PT) (N17:Y k7):Y k7:=fun x1 x2 x3 x7 x8 H=>
  N17 x1 x2 x3 x7 (i64.wrap (x8+1)) H
def B19 (P:PT) (N17:Y k7):Y k7:=fun x1 x2 x3 x7 x8 H=>
  idxK x7 x8 1 (fun b1 o2=>stK H b1 o2 [(I (-1))] (fun H3=>B18 P N17 x1 x2 x3 x7 x8 H3))
def B20 (P:PT) (N17:Y k7):Y k7:=fun x1 x2 x3 x7 x8 H=>
  li H x3 0 (fun v1=>pif (decide ((x8:Int)<v1)) (B19 P N17 x1 x2 x3 x7 x8 H) (B16 P x1 x2 x3 x7 H))
def L17 (P:PT):Y k7:=fun x1 x2 x3 x7 x8 H=>
  ∃ (I:Y k7) (μ:NTy k7 (AHeap→Nat)),I x1 x2 x3 x7 x8 H∧∀ y1 y2 y3 y7 y8 G,I y1 y2 y3 y7 y8 G→B20 P (fun z1 z2 z3 z7 z8 G'=>I z1 z2 z3 z7 z8 G'∧μ z1 z2 z3 z7 z8 G'<μ y1 y2 y3 y7 y8 G) y1 y2 y3 y7 y8 G
theorem l17 P:LQ k7 (L17 P) (B20 P):=fun ⟨_,_,_,_,_,_⟩ _ ⟨I,μ,h0,hI⟩=>⟨apT _ I,apT _ μ,h0,fun ⟨_,_,_,_,_,_⟩ _ h=>hI _ _ _ _ _ _  h⟩
def B21 (P:PT):Y k6:=fun x1 x2 x3 x7 H=>
  L17 P x1 x2 x3 x7 0 H
abbrev k8:Sk:=[(1,J),(2,J),(3,.x)]
def B22 (P:PT):Y k8:=fun x1 x2 x3 H=>
  li H x3 0 (fun v1=>mkR H 8 2 [(I 0)] v1 v1 (fun v3 H2=>B21 P x1 x2 x3 v3 H2))
abbrev k9:Sk:=[(0,.g [.i,.v]),(1,J),(2,J)]
def B23 (P:PT):Y k9:=fun x0a x0b x1 x2 H=>
  newK H [(I x0a),x0b] 26 (fun b1 H2=>B22 P x1 x2 b1 H2)
def code:Code:=(.seq (R 0 2) (.seq (R 1 6) (.seq (.seq (R 2 28) (.block 0 (.loop (.seq (.seq (R 3 464) (.cond (.tmp 20) .skip (.exit 0))) (.seq (.block 1 (R 5 932)) (R 4 467)))))) (.seq (R 6 30) (.seq (R 7 62) (.seq (.seq (R 8 252) (.block 2 (.loop (.seq (.seq (R 9 4048) (.cond (.tmp 34) .skip (.exit 2))) (.seq (.block 3 (.seq (.region 11 ⟨o12⟩ true) (.seq (R 12 32402) (.block 4 (.loop (.seq (.seq (R 13 518448) (.cond (.tmp 46) .skip (.exit 4))) (.seq (.block 5 (.seq (.region 15 ⟨o9⟩ true) (.seq (R 16 4147602) (.cond (.tmp 71) (.seq (R 17 16590412) (R 18 16590413)) .skip)))) (R 14 518451)))))))) (R 10 4051)))))) (.seq (R 19 254) .ret)))))))
theorem body:Tryz.f169.body=some code:=by kernel_rfl
theorem main P:Z 88 k9 (B23 P) code (ret P):=
  (r_seq (b (E k8 (B22 P))) (r_seq (b (E k6 (B21 P))) (r_seq (r_seq (b (E k7 (L17 P))) (r_block (rL (l17 P) (fun N17=>(r_seq (r_seq (b (cnd 20 (E k7 (B19 P N17)) (E k6 (B16 P)))) (r_cond rfl r_skip (r_exit (fun _ _ h=>h)))) (r_seq (r_block (b (E k7 (B18 P N17)))) (b (E k7 N17)))))))) (r_seq (b (E k6 (B15 P))) (r_seq (b (E k5 (B14 P))) (r_seq (r_seq (b (E k1 (L2 P))) (r_block (rL (l2 P) (fun N2=>(r_seq (r_seq (b (cnd 34 (E k1 (B12 P N2)) (E k0 (B1 P)))) (r_cond rfl r_skip (r_exit (fun _ _ h=>h)))) (r_seq (r_block (r_seq (rD T0_ok mixed [(0,false),(1,false),(2,false),(3,false),(4,false),(5,false),(6,false)] (by kernel_rfl) (q12 P N2)) (r_seq (b (E k2 (L4 P N2))) (r_block (rL (l4 P N2) (fun N4=>(r_seq (r_seq (b (cnd 46 (E k2 (B9 P N2 N4)) (E k1 (B3 P N2)))) (r_cond rfl r_skip (r_exit (fun _ _ h=>h)))) (r_seq (r_block (r_seq (rD T0_ok mixed [(0,false),(1,false),(2,false),(3,false),(4,false),(5,false),(6,false),(7,false),(8,false),(9,false),(10,false)] (by kernel_rfl) (q9 P N2 N4)) (r_seq (b (cnd 71 (E k3 (B7 P N2 N4)) (E k2 (B5 P N2 N4)))) (r_cond rfl (r_seq (b (E k3 (B6 P N2 N4))) (b (E k2 (B5 P N2 N4)))) r_skip)))) (b (E k2 N4)))))))))) (b (E k1 N2)))))))) (r_seq (b (ret P)) r_ret)))))))
theorem ac (P:PT) (x0a:Int) (x0b:Value) (x1 x2:Int) (H:AHeap) (h:B23 P x0a x0b x1 x2 H):A 169 [(agg ⟨[(I x0a),x0b]⟩),(I x1),(I x2)] H P:=
  r_fn T0_ok (c:=code) (n:=88) Tryz.func169 body (by kernel_rfl) (main P) (En_mk (x0a,x0b,x1,x2,()) (by kernel_rfl) ⟨by kernel_rfl,by kernel_rfl,by kernel_rfl,trivial⟩ h)

end F169
namespace F170
abbrev E:=En 22
def O (k:Nat):=ob Tryz.f170 (pth k)
abbrev R (i k:Nat):Code:=.region i ⟨O k⟩ false
def ret (P:PT):EP:=retE T0 22 Tryz.f170 P
abbrev k0:Sk:=[(1,J),(2,J),(3,.x)]
def o1:=O 6
def B1 (P:PT):Y k0:=fun x1 x2 x3 H=>
  ld1 H x3 1 (fun v1=>idxK v1 x1 2 (fun b2 o3=>li H b2 o3 (fun v4=>ld1 H x3 1 (fun v5=>idxK v5 x1 2 (fun b6 o7=>li H b6 (o7+1) (fun v8=>P (I (i64.wrap ((i64.wrap (v4+v8))-x2))) H))))))
theorem q1 (P:PT):QD Tryz.prog T0 22 o1 [(0,false),(1,false),(2,false),(3,false),(4,false),(5,false),(6,false),(7,false),(8,false),(9,false),(10,false),(11,false),(12,false),(13,false),(14,false),(15,false)] (ret P) k0 (B1 P):=fun _ _ _ _ _  => by kernel_rfl
abbrev k1:Sk:=[(0,.g [.i,.v]),(1,J),(2,J)]
def B2 (P:PT):Y k1:=fun x0a x0b x1 x2 H=>
  newK H [(I x0a),x0b] 26 (fun b1 H2=>B1 P x1 x2 b1 H2)
def code:Code:=(.seq (R 0 2) (.seq (.region 1 ⟨o1⟩ true) .ret))
theorem body:Tryz.f170.body=some code:=by kernel_rfl
theorem main P:Z 22 k1 (B2 P) code (ret P):=
  (r_seq (b (E k0 (B1 P))) (r_seq (rD T0_ok mixed [(0,false),(1,false),(2,false),(3,false),(4,false),(5,false),(6,false),(7,false),(8,false),(9,false),(10,false),(11,false),(12,false),(13,false),(14,false),(15,false)] (by kernel_rfl) (q1 P)) r_ret))
theorem ac (P:PT) (x0a:Int) (x0b:Value) (x1 x2:Int) (H:AHeap) (h:B2 P x0a x0b x1 x2 H):A 170 [(agg ⟨[(I x0a),x0b]⟩),(I x1),(I x2)] H P:=
  r_fn T0_ok (c:=code) (n:=22) Tryz.func170 body (by kernel_rfl) (main P) (En_mk (x0a,x0b,x1,x2,()) (by kernel_rfl) ⟨by kernel_rfl,by kernel_rfl,by kernel_rfl,trivial⟩ h)

end F170
namespace F171
abbrev E:=En 53
def O (k:Nat):=ob Tryz.f171 (pth k)
abbrev R (i k:Nat):Code:=.region i ⟨O k⟩ false
def ret (P:PT):EP:=retE T0 53 Tryz.f171 P
abbrev k0:Sk:=[(0,.v),(1,J),(2,J),(3,.v),(8,J)]
def o2:=O 51
def B2 (P:PT) (N1:Y k0):Y k0:=fun x0 x1 x2 x3 x8 H=>
  N1 x0 x1 x2 x3 (i64.wrap (x8+1)) H
abbrev k1:Sk:=[(0,.v),(1,J),(2,J),(3,.v),(8,J),(9,J)]
def B4 (P:PT) (N1:Y k0) (N3:Y k1):Y k1:=fun x0 x1 x2 x3 x8 x9 H=>
  N3 x0 x1 x2 x3 x8 (i64.wrap (x9-1)) H
def o5:=O 6436
def B5 (P:PT) (N1:Y k0) (N3:Y k1):Y k1:=fun x0 x1 x2 x3 x8 x9 H=>
  idxK x0 (i64.wrap (x9-1)) 1 (fun b1 o2=>ldI .u64 H b1 o2 (fun v3=>idxK x0 x9 1 (fun b4 o5=>ldI .u64 H b4 o5 (fun v6=>idxK x0 x9 1 (fun b7 o8=>stK H b7 o8 [(int .u64 v3)] (fun H9=>idxK x0 (i64.wrap (x9-1)) 1 (fun b10 o11=>stK H9 b10 o11 [(int .u64 v6)] (fun H12=>B4 P N1 N3 x0 x1 x2 x3 x8 x9 H12))))))))
theorem q5 (P:PT) (N1:Y k0) (N3:Y k1):QD Tryz.prog T0 53 o5 [(0,false),(1,false),(2,false),(3,false),(4,false),(5,false),(6,false),(7,false),(8,false),(9,false),(10,false),(11,false),(12,false),(13,false),(14,false),(15,false),(16,false),(17,false)] (En 53 k1 (B4 P N1 N3)) k1 (B5 P N1 N3):=fun _ _ _ _ _ _ _ _  => by kernel_rfl
def o6:=O 3216
def B6 (P:PT) (N1:Y k0) (N3:Y k1):Y k1:=fun x0 x1 x2 x3 x8 x9 H=>
  pif (decide ((x9:Int)>x1)) (idxK x0 x9 1 (fun b1 o2=>ldI .u64 H b1 o2 (fun v3=>idxK x0 (i64.wrap (x9-1)) 1 (fun b4 o5=>ldI .u64 H b4 o5 (fun v6=>callV Tryz.prog T0 x3 [(int .u64 v3),(int .u64 v6)] H (fun v7 H8=>asI .i64 v7 (fun v9=>pif (decide ((v9:Int)<0)) (B5 P N1 N3 x0 x1 x2 x3 x8 x9 H8) (B2 P N1 x0 x1 x2 x3 x8 H8)))))))) (B2 P N1 x0 x1 x2 x3 x8 H)
theorem q6 (P:PT) (N1:Y k0) (N3:Y k1):QD Tryz.prog T0 53 o6 [(0,false),(1,false),(2,false),(3,false),(4,false),(5,false),(6,false),(7,false),(8,false),(9,false),(10,false),(11,false),(12,false),(13,false),(14,false),(15,false),(16,false)] (cnd 34 (En 53 k1 (B5 P N1 N3)) (En 53 k0 (B2 P N1))) k1 (B6 P N1 N3):=fun _ _ _ _ _ _ _ _  => by kernel_rfl
def L3 (P:PT) (N1:Y k0):Y k1:=fun x0 x1 x2 x3 x8 x9 H=>
  ∃ (I:Y k1) (μ:NTy k1 (AHeap→Nat)),I x0 x1 x2 x3 x8 x9 H∧∀ y0 y1 y2 y3 y8 y9 G,I y0 y1 y2 y3 y8 y9 G→B6 P N1 (fun z0 z1 z2 z3 z8 z9 G'=>I z0 z1 z2 z3 z8 z9 G'∧μ z0 z1 z2 z3 z8 z9 G'<μ y0 y1 y2 y3 y8 y9 G) y0 y1 y2 y3 y8 y9 G
theorem l3 P N1:LQ k1 (L3 P N1) (B6 P N1):=fun ⟨_,_,_,_,_,_,_⟩ _ ⟨I,μ,h0,hI⟩=>⟨apT _ I,apT _ μ,h0,fun ⟨_,_,_,_,_,_,_⟩ _ h=>hI _ _ _ _ _ _ _  h⟩
def B7 (P:PT) (N1:Y k0):Y k0:=fun x0 x1 x2 x3 x8 H=>
  L3 P N1 x0 x1 x2 x3 x8 x8 H
def o8:=O 48
def B8 (P:PT) (N1:Y k0):Y k0:=fun x0 x1 x2 x3 x8 H=>
  pif (decide ((x8:Int)<x2)) (B7 P N1 x0 x1 x2 x3 x8 H) (P (tuple ⟨[]⟩) H)
def L1 (P:PT):Y k0:=fun x0 x1 x2 x3 x8 H=>
  ∃ (I:Y k0) (μ:NTy k0 (AHeap→Nat)),I x0 x1 x2 x3 x8 H∧∀ y0 y1 y2 y3 y8 G,I y0 y1 y2 y3 y8 G→B8 P (fun z0 z1 z2 z3 z8 G'=>I z0 z1 z2 z3 z8 G'∧μ z0 z1 z2 z3 z8 G'<μ y0 y1 y2 y3 y8 G) y0 y1 y2 y3 y8 G
theorem l1 P:LQ k0 (L1 P) (B8 P):=fun ⟨_,_,_,_,_,_⟩ _ ⟨I,μ,h0,hI⟩=>⟨apT _ I,apT _ μ,h0,fun ⟨_,_,_,_,_,_⟩ _ h=>hI _ _ _ _ _ _  h⟩
abbrev k2:Sk:=[(0,.v),(1,J),(2,J),(3,.v)]
def B9 (P:PT):Y k2:=fun x0 x1 x2 x3 H=>
  L1 P x0 x1 x2 x3 (i64.wrap (x1+1)) H
def code:Code:=(.seq (R 0 2) (.block 0 (.loop (.seq (.seq (R 1 48) (.cond (.tmp 14) .skip (.exit 0))) (.seq (.block 1 (.seq (R 3 200) (.block 2 (.loop (.seq (.seq (.region 4 ⟨o6⟩ true) (.cond (.tmp 34) .skip (.exit 2))) (.seq (.block 3 (.region 6 ⟨o5⟩ true)) (R 5 3219))))))) (R 2 51))))))
theorem body:Tryz.f171.body=some code:=by kernel_rfl
theorem main P:Z 53 k2 (B9 P) code (ret P):=
  (r_seq (b (E k0 (L1 P))) (r_block (rL (l1 P) (fun N1=>(r_seq (r_seq (b (cnd 14 (E k0 (B7 P N1)) (ret P))) (r_cond rfl r_skip (r_exit (fun _ _ h=>h)))) (r_seq (r_block (r_seq (b (E k1 (L3 P N1))) (r_block (rL (l3 P N1) (fun N3=>(r_seq (r_seq (rD T0_ok mixed [(0,false),(1,false),(2,false),(3,false),(4,false),(5,false),(6,false),(7,false),(8,false),(9,false),(10,false),(11,false),(12,false),(13,false),(14,false),(15,false),(16,false)] (by kernel_rfl) (q6 P N1 N3)) (r_cond rfl r_skip (r_exit (fun _ _ h=>h)))) (r_seq (r_block (rD T0_ok mixed [(0,false),(1,false),(2,false),(3,false),(4,false),(5,false),(6,false),(7,false),(8,false),(9,false),(10,false),(11,false),(12,false),(13,false),(14,false),(15,false),(16,false),(17,false)] (by kernel_rfl) (q5 P N1 N3))) (b (E k1 N3))))))))) (b (E k0 N1))))))))
theorem ac (P:PT) (x0:Value) (x1 x2:Int) (x3:Value) (H:AHeap) (h:B9 P x0 x1 x2 x3 H):A 171 [x0,(I x1),(I x2),x3] H P:=
  r_fn T0_ok (c:=code) (n:=53) Tryz.func171 body (by kernel_rfl) (main P) (En_mk (x0,x1,x2,x3,()) (by kernel_rfl) ⟨by kernel_rfl,by kernel_rfl,by kernel_rfl,by kernel_rfl,trivial⟩ h)

end F171
namespace F172
abbrev E:=En 60
def O (k:Nat):=ob Tryz.f172 (pth k)
abbrev R (i k:Nat):Code:=.region i ⟨O k⟩ false
def ret (P:PT):EP:=retE T0 60 Tryz.f172 P
abbrev k0:Sk:=[(0,.v),(3,.v),(8,J),(9,J),(12,J)]
def o2:=O 1011
def B2 (P:PT) (N1:Y k0):Y k0:=fun x0 x3 x8 x9 x12 H=>
  N1 x0 x3 x8 x9 (i64.wrap (x12-1)) H
def B3 (P:PT) (N1:Y k0):Y k0:=fun x0 x3 x8 x9 x12 H=>
  A 198 [x0,(I x9),(I x12),(I x8),x3] H (fun v1 H2=>asTup v1 (fun l3=>B2 P N1 x0 x3 x8 x9 x12 H2))
def o4:=O 4040
def B4 (P:PT) (N1:Y k0):Y k0:=fun x0 x3 x8 x9 x12 H=>
  idxK x0 (i64.wrap (x8+x12)) 1 (fun b1 o2=>ldI .u64 H b1 o2 (fun v3=>idxK x0 x8 1 (fun b4 o5=>ldI .u64 H b4 o5 (fun v6=>idxK x0 x8 1 (fun b7 o8=>stK H b7 o8 [(int .u64 v3)] (fun H9=>idxK x0 (i64.wrap (x8+x12)) 1 (fun b10 o11=>stK H9 b10 o11 [(int .u64 v6)] (fun H12=>B3 P N1 x0 x3 x8 x9 x12 H12))))))))
theorem q4 (P:PT) (N1:Y k0):QD Tryz.prog T0 60 o4 [(0,false),(1,false),(2,false),(3,false),(4,false),(5,false),(6,false),(7,false),(8,false),(9,false),(10,false),(11,false),(12,false),(13,false),(14,false),(15,false),(16,false),(17,false),(18,false),(19,false)] (En 60 k0 (B3 P N1)) k0 (B4 P N1):=fun _ _ _ _ _ _ _  => by kernel_rfl
def o5:=O 1008
def B5 (P:PT) (N1:Y k0):Y k0:=fun x0 x3 x8 x9 x12 H=>
  pif (decide ((x12:Int)≥0)) (B4 P N1 x0 x3 x8 x9 x12 H) (P (tuple ⟨[]⟩) H)
def L1 (P:PT):Y k0:=fun x0 x3 x8 x9 x12 H=>
  ∃ (I:Y k0) (μ:NTy k0 (AHeap→Nat)),I x0 x3 x8 x9 x12 H∧∀ y0 y3 y8 y9 y12 G,I y0 y3 y8 y9 y12 G→B5 P (fun z0 z3 z8 z9 z12 G'=>I z0 z3 z8 z9 z12 G'∧μ z0 z3 z8 z9 z12 G'<μ y0 y3 y8 y9 y12 G) y0 y3 y8 y9 y12 G
theorem l1 P:LQ k0 (L1 P) (B5 P):=fun ⟨_,_,_,_,_,_⟩ _ ⟨I,μ,h0,hI⟩=>⟨apT _ I,apT _ μ,h0,fun ⟨_,_,_,_,_,_⟩ _ h=>hI _ _ _ _ _ _  h⟩
abbrev k1:Sk:=[(0,.v),(3,.v),(8,J),(9,J),(10,J)]
def B6 (P:PT):Y k1:=fun x0 x3 x8 x9 x10 H=>
  L1 P x0 x3 x8 x9 (i64.wrap (x10-1)) H
abbrev k2:Sk:=[(0,.v),(3,.v),(8,J),(9,J),(10,J),(11,J)]
def o8:=O 979
def B8 (P:PT) (N7:Y k2):Y k2:=fun x0 x3 x8 x9 x10 x11 H=>
  N7 x0 x3 x8 x9 x10 (i64.wrap (x11-1)) H
def B9 (P:PT) (N7:Y k2):Y k2:=fun x0 x3 x8 x9 x10 x11 H=>
  A 198 [x0,(I x11),(I x10),(I x8),x3] H (fun v1 H2=>asTup v1 (fun l3=>B8 P N7 x0 x3 x8 x9 x10 x11 H2))
def B10 (P:PT) (N7:Y k2):Y k2:=fun x0 x3 x8 x9 x10 x11 H=>
  pif (decide ((x11:Int)≥0)) (B9 P N7 x0 x3 x8 x9 x10 x11 H) (B6 P x0 x3 x8 x9 x10 H)
def L7 (P:PT):Y k2:=fun x0 x3 x8 x9 x10 x11 H=>
  ∃ (I:Y k2) (μ:NTy k2 (AHeap→Nat)),I x0 x3 x8 x9 x10 x11 H∧∀ y0 y3 y8 y9 y10 y11 G,I y0 y3 y8 y9 y10 y11 G→B10 P (fun z0 z3 z8 z9 z10 z11 G'=>I z0 z3 z8 z9 z10 z11 G'∧μ z0 z3 z8 z9 z10 z11 G'<μ y0 y3 y8 y9 y10 y11 G) y0 y3 y8 y9 y10 y11 G
theorem l7 P:LQ k2 (L7 P) (B10 P):=fun ⟨_,_,_,_,_,_,_⟩ _ ⟨I,μ,h0,hI⟩=>⟨apT _ I,apT _ μ,h0,fun ⟨_,_,_,_,_,_,_⟩ _ h=>hI _ _ _ _ _ _ _  h⟩
def o11:=O 60
def B11 (P:PT):Y k1:=fun x0 x3 x8 x9 x10 H=>
  L7 P x0 x3 x8 x9 x10 (i64.wrap (Int.tdiv (i64.wrap (x10-1)) 2)) H
abbrev k3:Sk:=[(0,.v),(1,J),(2,J),(3,.v),(8,J),(9,J)]
def B12 (P:PT):Y k3:=fun x0 x1 x2 x3 x8 x9 H=>
  B11 P x0 x3 x8 x9 (i64.wrap (x2-x1)) H
abbrev k4:Sk:=[(0,.v),(1,J),(2,J),(3,.v),(8,J)]
def B13 (P:PT):Y k4:=fun x0 x1 x2 x3 x8 H=>
  B12 P x0 x1 x2 x3 x8 0 H
abbrev k5:Sk:=[(0,.v),(1,J),(2,J),(3,.v)]
def B14 (P:PT):Y k5:=fun x0 x1 x2 x3 H=>
  B13 P x0 x1 x2 x3 x1 H
def code:Code:=(.seq (R 0 2) (.seq (R 1 6) (.seq (R 2 14) (.seq (.seq (R 3 60) (.block 0 (.loop (.seq (.seq (R 4 976) (.cond (.tmp 21) .skip (.exit 0))) (.seq (.block 1 (R 6 1956)) (R 5 979)))))) (.seq (R 7 62) (.block 2 (.loop (.seq (.seq (R 8 1008) (.cond (.tmp 33) .skip (.exit 2))) (.seq (.block 3 (.seq (.region 10 ⟨o4⟩ true) (R 11 4041))) (R 9 1011))))))))))
theorem body:Tryz.f172.body=some code:=by kernel_rfl
theorem main P:Z 60 k5 (B14 P) code (ret P):=
  (r_seq (b (E k4 (B13 P))) (r_seq (b (E k3 (B12 P))) (r_seq (b (E k1 (B11 P))) (r_seq (r_seq (b (E k2 (L7 P))) (r_block (rL (l7 P) (fun N7=>(r_seq (r_seq (b (cnd 21 (E k2 (B9 P N7)) (E k1 (B6 P)))) (r_cond rfl r_skip (r_exit (fun _ _ h=>h)))) (r_seq (r_block (b (E k2 (B8 P N7)))) (b (E k2 N7)))))))) (r_seq (b (E k0 (L1 P))) (r_block (rL (l1 P) (fun N1=>(r_seq (r_seq (b (cnd 33 (E k0 (B4 P N1)) (ret P))) (r_cond rfl r_skip (r_exit (fun _ _ h=>h)))) (r_seq (r_block (r_seq (rD T0_ok mixed [(0,false),(1,false),(2,false),(3,false),(4,false),(5,false),(6,false),(7,false),(8,false),(9,false),(10,false),(11,false),(12,false),(13,false),(14,false),(15,false),(16,false),(17,false),(18,false),(19,false)] (by kernel_rfl) (q4 P N1)) (b (E k0 (B2 P N1))))) (b (E k0 N1))))))))))))
theorem ac (P:PT) (x0:Value) (x1 x2:Int) (x3:Value) (H:AHeap) (h:B14 P x0 x1 x2 x3 H):A 172 [x0,(I x1),(I x2),x3] H P:=
  r_fn T0_ok (c:=code) (n:=60) Tryz.func172 body (by kernel_rfl) (main P) (En_mk (x0,x1,x2,x3,()) (by kernel_rfl) ⟨by kernel_rfl,by kernel_rfl,by kernel_rfl,by kernel_rfl,trivial⟩ h)

end F172
namespace F173
abbrev E:=En 67
def O (k:Nat):=ob Tryz.f173 (pth k)
abbrev R (i k:Nat):Code:=.region i ⟨O k⟩ false
def ret (P:PT):EP:=retE T0 67 Tryz.f173 P
abbrev k0:Sk:=[(0,.v),(1,J),(8,J),(9,.x),(10,.i .u64),(11,J)]
def o2:=O 1907
def B2 (P:PT) (N1:Y k0):Y k0:=fun x0 x1 x8 x9 x10 x11 H=>
  N1 x0 x1 x8 x9 x10 (i64.wrap (x11+1)) H
abbrev k1:Sk:=[(0,.v),(1,J),(8,J),(9,.x),(10,.i .u64),(11,J),(12,J)]
def o3:=O 15251
def B3 (P:PT) (N1:Y k0):Y k1:=fun x0 x1 x8 x9 x10 x11 x12 H=>
  idxK x0 (i64.wrap (x1+x12)) 1 (fun b1 o2=>ldI .u64 H b1 o2 (fun v3=>idxK x0 x11 1 (fun b4 o5=>ldI .u64 H b4 o5 (fun v6=>idxK x0 x11 1 (fun b7 o8=>stK H b7 o8 [(int .u64 v3)] (fun H9=>idxK x0 (i64.wrap (x1+x12)) 1 (fun b10 o11=>stK H9 b10 o11 [(int .u64 v6)] (fun H12=>B2 P N1 x0 x1 x8 x9 x10 x11 H12))))))))
theorem q3 (P:PT) (N1:Y k0):QD Tryz.prog T0 67 o3 [(0,false),(1,false),(2,false),(3,false),(4,false),(5,false),(6,false),(7,false),(8,false),(9,false),(10,false),(11,false),(12,false),(13,false),(14,false),(15,false),(16,false),(17,false),(18,false),(19,false)] (En 67 k0 (B2 P N1)) k1 (B3 P N1):=fun _ _ _ _ _ _ _ _ _  => by kernel_rfl
def B4 (P:PT) (N1:Y k0):Y k1:=fun x0 x1 x8 x9 x10 x11 x12 H=>
  B3 P N1 x0 x1 x8 x9 x10 x11 (i64.wrap (x12-x8)) H
def o5:=O 30500
def B5 (P:PT) (N1:Y k0):Y k1:=fun x0 x1 x8 x9 x10 x11 x12 H=>
  pif (decide ((x12:Int)≥x8)) (B4 P N1 x0 x1 x8 x9 x10 x11 x12 H) (B3 P N1 x0 x1 x8 x9 x10 x11 x12 H)
def B6 (P:PT) (N1:Y k0):Y k0:=fun x0 x1 x8 x9 x10 x11 H=>
  A 200 [(pointer (some ⟨x9,0,none⟩))] H (fun v1 H2=>asI .u64 v1 (fun v3=>B5 P N1 x0 x1 x8 x9 x10 x11 (i64.wrap (u64.wrap (BitVec.ofInt 64 v3&&&BitVec.ofInt 64 (u64.wrap (x10-1))).toNat)) H2))
def B7 (P:PT) (N1:Y k0):Y k0:=fun x0 x1 x8 x9 x10 x11 H=>
  pif (decide ((x11:Int)≤(i64.wrap ((i64.wrap (x1+(i64.wrap ((i64.wrap (Int.tdiv x8 4))*2))))+1)))) (B6 P N1 x0 x1 x8 x9 x10 x11 H) (P (tuple ⟨[]⟩) H)
def L1 (P:PT):Y k0:=fun x0 x1 x8 x9 x10 x11 H=>
  ∃ (I:Y k0) (μ:NTy k0 (AHeap→Nat)),I x0 x1 x8 x9 x10 x11 H∧∀ y0 y1 y8 y9 y10 y11 G,I y0 y1 y8 y9 y10 y11 G→B7 P (fun z0 z1 z8 z9 z10 z11 G'=>I z0 z1 z8 z9 z10 z11 G'∧μ z0 z1 z8 z9 z10 z11 G'<μ y0 y1 y8 y9 y10 y11 G) y0 y1 y8 y9 y10 y11 G
theorem l1 P:LQ k0 (L1 P) (B7 P):=fun ⟨_,_,_,_,_,_,_⟩ _ ⟨I,μ,h0,hI⟩=>⟨apT _ I,apT _ μ,h0,fun ⟨_,_,_,_,_,_,_⟩ _ h=>hI _ _ _ _ _ _ _  h⟩
abbrev k2:Sk:=[(0,.v),(1,J),(8,J),(9,.x),(10,.i .u64)]
def o8:=O 118
def B8 (P:PT):Y k2:=fun x0 x1 x8 x9 x10 H=>
  L1 P x0 x1 x8 x9 x10 (i64.wrap ((i64.wrap (x1+(i64.wrap ((i64.wrap (Int.tdiv x8 4))*2))))-1)) H
abbrev k3:Sk:=[(0,.v),(1,J),(8,J),(9,.x)]
def B9 (P:PT):Y k3:=fun x0 x1 x8 x9 H=>
  A 199 [(I x8)] H (fun v1 H2=>asI .u64 v1 (fun v3=>B8 P x0 x1 x8 x9 v3 H2))
abbrev k4:Sk:=[(0,.v),(1,J),(8,J)]
def B10 (P:PT):Y k4:=fun x0 x1 x8 H=>
  newK H [(int .u64 0)] 184 (fun b1 H2=>stK H2 b1 0 [(int .u64 (u64.wrap x8))] (fun H3=>B9 P x0 x1 x8 b1 H3))
def o11:=O 6
def B11 (P:PT):Y k4:=fun x0 x1 x8 H=>
  pif (decide ((x8:Int)≥8)) (B10 P x0 x1 x8 H) (P (tuple ⟨[]⟩) H)
abbrev k5:Sk:=[(0,.v),(1,J),(2,J)]
def B12 (P:PT):Y k5:=fun x0 x1 x2 H=>
  B11 P x0 x1 (i64.wrap (x2-x1)) H
def code:Code:=(.seq (R 0 2) (.seq (R 1 6) (.cond (.tmp 17) (.seq (R 2 28) (.seq (R 3 58) (.seq (R 4 118) (.block 0 (.loop (.seq (.seq (R 5 1904) (.cond (.tmp 35) .skip (.exit 0))) (.seq (.block 1 (.seq (R 7 7624) (.seq (.seq (R 8 30500) (.cond (.tmp 45) (R 9 61002) .skip)) (.region 10 ⟨o3⟩ true)))) (R 6 1907)))))))) .skip)))
theorem body:Tryz.f173.body=some code:=by kernel_rfl
theorem main P:Z 67 k5 (B12 P) code (ret P):=
  (r_seq (b (E k4 (B11 P))) (r_seq (b (cnd 17 (E k4 (B10 P)) (ret P))) (r_cond rfl (r_seq (b (E k3 (B9 P))) (r_seq (b (E k2 (B8 P))) (r_seq (b (E k0 (L1 P))) (r_block (rL (l1 P) (fun N1=>(r_seq (r_seq (b (cnd 35 (E k0 (B6 P N1)) (ret P))) (r_cond rfl r_skip (r_exit (fun _ _ h=>h)))) (r_seq (r_block (r_seq (b (E k1 (B5 P N1))) (r_seq (r_seq (b (cnd 45 (E k1 (B4 P N1)) (E k1 (B3 P N1)))) (r_cond rfl (b (E k1 (B3 P N1))) r_skip)) (rD T0_ok mixed [(0,false),(1,false),(2,false),(3,false),(4,false),(5,false),(6,false),(7,false),(8,false),(9,false),(10,false),(11,false),(12,false),(13,false),(14,false),(15,false),(16,false),(17,false),(18,false),(19,false)] (by kernel_rfl) (q3 P N1))))) (b (E k0 N1)))))))))) r_skip)))
theorem ac (P:PT) (x0:Value) (x1 x2:Int) (x3:Value) (H:AHeap) (h:B12 P x0 x1 x2 H):A 173 [x0,(I x1),(I x2),x3] H P:=
  r_fn T0_ok (c:=code) (n:=67) Tryz.func173 body (by kernel_rfl) (main P) (En_mk (x0,x1,x2,()) (by kernel_rfl) ⟨by kernel_rfl,by kernel_rfl,by kernel_rfl,trivial⟩ h)

end F173
namespace F174
abbrev E:=En 63
def O (k:Nat):=ob Tryz.f174 (pth k)
abbrev R (i k:Nat):Code:=.region i ⟨O k⟩ false
def ret (P:PT):EP:=retE T0 63 Tryz.f174 P
abbrev k0:Sk:=[(13,J)]
def B1 (P:PT):Y k0:=fun x13 H=>
  P (tuple ⟨[(I x13),(I 1)]⟩) H
def B2 (P:PT):Y k0:=fun x13 H=>
  P (tuple ⟨[(I x13),(I 2)]⟩) H
def B3 (P:PT):Y k0:=fun x13 H=>
  P (tuple ⟨[(I x13),(I 0)]⟩) H
abbrev k1:Sk:=[(13,J),(55,J)]
def B4 (P:PT):Y k1:=fun x13 x55 H=>
  pif ((x55:Int)==12) (B2 P x13 H) (B3 P x13 H)
def B5 (P:PT):Y k1:=fun x13 x55 H=>
  pif ((x55:Int)==0) (B1 P x13 H) (B4 P x13 x55 H)
abbrev k2:Sk:=[(11,.x),(13,J)]
def B6 (P:PT):Y k2:=fun x11 x13 H=>
  li H x11 0 (fun v1=>B5 P x13 v1 H)
abbrev k3:Sk:=[(0,.v),(3,.v),(11,.x),(12,J),(13,J),(14,J)]
def B7 (P:PT):Y k3:=fun x0 x3 x11 x12 x13 x14 H=>
  A 202 [x0,(I x12),(I x13),(I x14),(pointer (some ⟨x11,0,none⟩)),x3] H (fun v1 H2=>asI .i64 v1 (fun v3=>B6 P x11 v3 H2))
def B8 (P:PT):Y k3:=fun x0 x3 x11 x12 x13 x14 H=>
  A 201 [x0,(I x14),(pointer (some ⟨x11,0,none⟩)),x3] H (fun v1 H2=>asI .i64 v1 (fun v3=>B7 P x0 x3 x11 x12 x13 v3 H2))
def B9 (P:PT):Y k3:=fun x0 x3 x11 x12 x13 x14 H=>
  A 201 [x0,(I x13),(pointer (some ⟨x11,0,none⟩)),x3] H (fun v1 H2=>asI .i64 v1 (fun v3=>B8 P x0 x3 x11 x12 v3 x14 H2))
def B10 (P:PT):Y k3:=fun x0 x3 x11 x12 x13 x14 H=>
  A 201 [x0,(I x12),(pointer (some ⟨x11,0,none⟩)),x3] H (fun v1 H2=>asI .i64 v1 (fun v3=>B9 P x0 x3 x11 v3 x13 x14 H2))
abbrev k4:Sk:=[(0,.v),(3,.v),(10,J),(11,.x),(12,J),(13,J),(14,J)]
def B11 (P:PT):Y k4:=fun x0 x3 x10 x11 x12 x13 x14 H=>
  pif (decide ((x10:Int)≥50)) (B10 P x0 x3 x11 x12 x13 x14 H) (B7 P x0 x3 x11 x12 x13 x14 H)
def B12 (P:PT):Y k4:=fun x0 x3 x10 x11 x12 x13 x14 H=>
  pif (decide ((x10:Int)≥8)) (B11 P x0 x3 x10 x11 x12 x13 x14 H) (B6 P x11 x13 H)
abbrev k5:Sk:=[(0,.v),(1,J),(3,.v),(10,J),(11,.x),(12,J),(13,J)]
def B13 (P:PT):Y k5:=fun x0 x1 x3 x10 x11 x12 x13 H=>
  B12 P x0 x3 x10 x11 x12 x13 (i64.wrap (x1+(i64.wrap ((i64.wrap (Int.tdiv x10 4))*3)))) H
abbrev k6:Sk:=[(0,.v),(1,J),(3,.v),(10,J),(11,.x),(12,J)]
def B14 (P:PT):Y k6:=fun x0 x1 x3 x10 x11 x12 H=>
  B13 P x0 x1 x3 x10 x11 x12 (i64.wrap (x1+(i64.wrap ((i64.wrap (Int.tdiv x10 4))*2)))) H
abbrev k7:Sk:=[(0,.v),(1,J),(3,.v),(10,J),(11,.x)]
def B15 (P:PT):Y k7:=fun x0 x1 x3 x10 x11 H=>
  B14 P x0 x1 x3 x10 x11 (i64.wrap (x1+(i64.wrap ((i64.wrap (Int.tdiv x10 4))*1)))) H
abbrev k8:Sk:=[(0,.v),(1,J),(3,.v),(10,J)]
def B16 (P:PT):Y k8:=fun x0 x1 x3 x10 H=>
  newK H [(I 0)] 3 (fun b1 H2=>B15 P x0 x1 x3 x10 b1 H2)
abbrev k9:Sk:=[(0,.v),(1,J),(2,J),(3,.v)]
def B17 (P:PT):Y k9:=fun x0 x1 x2 x3 H=>
  B16 P x0 x1 x3 (i64.wrap (x2-x1)) H
def B18 (P:PT):Y k9:=fun x0 x1 x2 x3 H=>
  B17 P x0 x1 x2 x3 H
def code:Code:=(.seq (R 0 2) (.seq (R 1 6) (.seq (R 2 14) (.seq (R 3 30) (.seq (R 4 62) (.seq (R 5 126) (.seq (.seq (R 6 508) (.cond (.tmp 34) (.seq (.seq (R 7 4072) (.cond (.tmp 36) (.seq (R 8 16292) (.seq (R 9 32586) (R 10 32587))) .skip)) (R 11 2037)) .skip)) (.seq (R 12 510) (.block 0 (.seq (R 14 2044) (.cond (.tmp 57) (.seq (R 15 8180) .ret) (.seq (R 16 8182) (.cond (.tmp 60) (.seq (R 17 32732) .ret) (.seq (R 13 32734) .ret))))))))))))))
theorem body:Tryz.f174.body=some code:=by kernel_rfl
theorem main P:Z 63 k9 (B18 P) code (ret P):=
  (r_seq (b (E k9 (B17 P))) (r_seq (b (E k8 (B16 P))) (r_seq (b (E k7 (B15 P))) (r_seq (b (E k6 (B14 P))) (r_seq (b (E k5 (B13 P))) (r_seq (b (E k4 (B12 P))) (r_seq (r_seq (b (cnd 34 (E k4 (B11 P)) (E k2 (B6 P)))) (r_cond rfl (r_seq (r_seq (b (cnd 36 (E k3 (B10 P)) (E k3 (B7 P)))) (r_cond rfl (r_seq (b (E k3 (B9 P))) (r_seq (b (E k3 (B8 P))) (b (E k3 (B7 P))))) r_skip)) (b (E k2 (B6 P)))) r_skip)) (r_seq (b (E k1 (B5 P))) (r_block (r_seq (b (cnd 57 (E k0 (B1 P)) (E k1 (B4 P)))) (r_cond rfl (r_seq (b (ret P)) r_ret) (r_seq (b (cnd 60 (E k0 (B2 P)) (E k0 (B3 P)))) (r_cond rfl (r_seq (b (ret P)) r_ret) (r_seq (b (ret P)) r_ret))))))))))))))
theorem ac (P:PT) (x0:Value) (x1 x2:Int) (x3:Value) (H:AHeap) (h:B18 P x0 x1 x2 x3 H):A 174 [x0,(I x1),(I x2),x3] H P:=
  r_fn T0_ok (c:=code) (n:=63) Tryz.func174 body (by kernel_rfl) (main P) (En_mk (x0,x1,x2,x3,()) (by kernel_rfl) ⟨by kernel_rfl,by kernel_rfl,by kernel_rfl,by kernel_rfl,trivial⟩ h)

end F174
namespace F175
abbrev E:=En 34
def O (k:Nat):=ob Tryz.f175 (pth k)
abbrev R (i k:Nat):Code:=.region i ⟨O k⟩ false
def ret (P:PT):EP:=retE T0 34 Tryz.f175 P
abbrev k0:Sk:=[(0,.v),(8,J),(9,J)]
def o2:=O 459
def B2 (P:PT) (N1:Y k0):Y k0:=fun x0 x8 x9 H=>
  N1 x0 x8 (i64.wrap (x9-1)) H
def B3 (P:PT) (N1:Y k0):Y k0:=fun x0 x8 x9 H=>
  B2 P N1 x0 (i64.wrap (x8+1)) x9 H
def o4:=O 228
def B4 (P:PT) (N1:Y k0):Y k0:=fun x0 x8 x9 H=>
  idxK x0 x9 1 (fun b1 o2=>ldI .u64 H b1 o2 (fun v3=>idxK x0 x8 1 (fun b4 o5=>ldI .u64 H b4 o5 (fun v6=>idxK x0 x8 1 (fun b7 o8=>stK H b7 o8 [(int .u64 v3)] (fun H9=>idxK x0 x9 1 (fun b10 o11=>stK H9 b10 o11 [(int .u64 v6)] (fun H12=>B3 P N1 x0 x8 x9 H12))))))))
theorem q4 (P:PT) (N1:Y k0):QD Tryz.prog T0 34 o4 [(0,false),(1,false),(2,false),(3,false),(4,false),(5,false),(6,false),(7,false),(8,false),(9,false),(10,false),(11,false),(12,false),(13,false),(14,false),(15,false)] (En 34 k0 (B3 P N1)) k0 (B4 P N1):=fun _ _ _ _ _  => by kernel_rfl
def o5:=O 112
def B5 (P:PT) (N1:Y k0):Y k0:=fun x0 x8 x9 H=>
  pif (decide ((x8:Int)<x9)) (B4 P N1 x0 x8 x9 H) (P (tuple ⟨[]⟩) H)
def L1 (P:PT):Y k0:=fun x0 x8 x9 H=>
  ∃ (I:Y k0) (μ:NTy k0 (AHeap→Nat)),I x0 x8 x9 H∧∀ y0 y8 y9 G,I y0 y8 y9 G→B5 P (fun z0 z8 z9 G'=>I z0 z8 z9 G'∧μ z0 z8 z9 G'<μ y0 y8 y9 G) y0 y8 y9 G
theorem l1 P:LQ k0 (L1 P) (B5 P):=fun ⟨_,_,_,_⟩ _ ⟨I,μ,h0,hI⟩=>⟨apT _ I,apT _ μ,h0,fun ⟨_,_,_,_⟩ _ h=>hI _ _ _ _  h⟩
abbrev k1:Sk:=[(0,.v),(2,J),(8,J)]
def B6 (P:PT):Y k1:=fun x0 x2 x8 H=>
  L1 P x0 x8 (i64.wrap (x2-1)) H
abbrev k2:Sk:=[(0,.v),(1,J),(2,J)]
def B7 (P:PT):Y k2:=fun x0 x1 x2 H=>
  B6 P x0 x2 x1 H
def code:Code:=(.seq (R 0 2) (.seq (R 1 6) (.block 0 (.loop (.seq (.seq (R 2 112) (.cond (.tmp 15) .skip (.exit 0))) (.block 1 (.seq (.region 3 ⟨o4⟩ true) (.seq (R 4 458) (R 5 459)))))))))
theorem body:Tryz.f175.body=some code:=by kernel_rfl
theorem main P:Z 34 k2 (B7 P) code (ret P):=
  (r_seq (b (E k1 (B6 P))) (r_seq (b (E k0 (L1 P))) (r_block (rL (l1 P) (fun N1=>(r_seq (r_seq (b (cnd 15 (E k0 (B4 P N1)) (ret P))) (r_cond rfl r_skip (r_exit (fun _ _ h=>h)))) (r_block (r_seq (rD T0_ok mixed [(0,false),(1,false),(2,false),(3,false),(4,false),(5,false),(6,false),(7,false),(8,false),(9,false),(10,false),(11,false),(12,false),(13,false),(14,false),(15,false)] (by kernel_rfl) (q4 P N1)) (r_seq (b (E k0 (B2 P N1))) (b (E k0 N1)))))))))))
theorem ac (P:PT) (x0:Value) (x1 x2:Int) (x3:Value) (H:AHeap) (h:B7 P x0 x1 x2 H):A 175 [x0,(I x1),(I x2),x3] H P:=
  r_fn T0_ok (c:=code) (n:=34) Tryz.func175 body (by kernel_rfl) (main P) (En_mk (x0,x1,x2,()) (by kernel_rfl) ⟨by kernel_rfl,by kernel_rfl,by kernel_rfl,trivial⟩ h)

end F175
namespace F176
abbrev E:=En 141
def O (k:Nat):=ob Tryz.f176 (pth k)
abbrev R (i k:Nat):Code:=.region i ⟨O k⟩ false
def ret (P:PT):EP:=retE T0 141 Tryz.f176 P
abbrev k0:Sk:=[]
def B1 (P:PT):Y k0:=fun H=>
  P (bool false) H
abbrev k1:Sk:=[(0,.v),(1,J),(2,J),(3,.v),(9,J),(10,J)]
def B3 (P:PT) (N2:Y k1):Y k1:=fun x0 x1 x2 x3 x9 x10 H=>
  N2 x0 x1 x2 x3 x9 (i64.wrap (x10+1)) H
abbrev k2:Sk:=[(0,.v),(1,J),(2,J),(3,.v),(9,J),(10,J),(12,J)]
def o5:=O 3821523
def B5 (P:PT) (N2:Y k1) (N4:Y k2):Y k2:=fun x0 x1 x2 x3 x9 x10 x12 H=>
  N4 x0 x1 x2 x3 x9 x10 (i64.wrap (x12+1)) H
def o6:=O 15286089
def B6 (P:PT) (N2:Y k1) (N4:Y k2):Y k2:=fun x0 x1 x2 x3 x9 x10 x12 H=>
  idxK x0 (i64.wrap (x12-1)) 1 (fun b1 o2=>ldI .u64 H b1 o2 (fun v3=>idxK x0 x12 1 (fun b4 o5=>ldI .u64 H b4 o5 (fun v6=>idxK x0 x12 1 (fun b7 o8=>stK H b7 o8 [(int .u64 v3)] (fun H9=>idxK x0 (i64.wrap (x12-1)) 1 (fun b10 o11=>stK H9 b10 o11 [(int .u64 v6)] (fun H12=>B5 P N2 N4 x0 x1 x2 x3 x9 x10 x12 H12))))))))
theorem q6 (P:PT) (N2:Y k1) (N4:Y k2):QD Tryz.prog T0 141 o6 [(0,false),(1,false),(2,false),(3,false),(4,false),(5,false),(6,false),(7,false),(8,false),(9,false),(10,false),(11,false),(12,false),(13,false),(14,false),(15,false),(16,false),(17,false)] (En 141 k2 (B5 P N2 N4)) k2 (B6 P N2 N4):=fun _ _ _ _ _ _ _ _ _  => by kernel_rfl
def o7:=O 30572176
def B7 (P:PT) (N2:Y k1) (N4:Y k2):Y k2:=fun x0 x1 x2 x3 x9 x10 x12 H=>
  idxK x0 x12 1 (fun b1 o2=>ldI .u64 H b1 o2 (fun v3=>idxK x0 (i64.wrap (x12-1)) 1 (fun b4 o5=>ldI .u64 H b4 o5 (fun v6=>callV Tryz.prog T0 x3 [(int .u64 v3),(int .u64 v6)] H (fun v7 H8=>asI .i64 v7 (fun v9=>pif (!(decide ((v9:Int)<0))) (B3 P N2 x0 x1 x2 x3 x9 x10 H8) (B6 P N2 N4 x0 x1 x2 x3 x9 x10 x12 H8)))))))
theorem q7 (P:PT) (N2:Y k1) (N4:Y k2):QD Tryz.prog T0 141 o7 [(0,false),(1,false),(2,false),(3,false),(4,false),(5,false),(6,false),(7,false),(8,false),(9,false),(10,false),(11,false),(12,false)] (cnd 124 (En 141 k1 (B3 P N2)) (En 141 k2 (B6 P N2 N4))) k2 (B7 P N2 N4):=fun _ _ _ _ _ _ _ _ _  => by kernel_rfl
def o8:=O 3821520
def B8 (P:PT) (N2:Y k1) (N4:Y k2):Y k2:=fun x0 x1 x2 x3 x9 x10 x12 H=>
  pif (decide ((x12:Int)<x2)) (B7 P N2 N4 x0 x1 x2 x3 x9 x10 x12 H) (B3 P N2 x0 x1 x2 x3 x9 x10 H)
def L4 (P:PT) (N2:Y k1):Y k2:=fun x0 x1 x2 x3 x9 x10 x12 H=>
  ∃ (I:Y k2) (μ:NTy k2 (AHeap→Nat)),I x0 x1 x2 x3 x9 x10 x12 H∧∀ y0 y1 y2 y3 y9 y10 y12 G,I y0 y1 y2 y3 y9 y10 y12 G→B8 P N2 (fun z0 z1 z2 z3 z9 z10 z12 G'=>I z0 z1 z2 z3 z9 z10 z12 G'∧μ z0 z1 z2 z3 z9 z10 z12 G'<μ y0 y1 y2 y3 y9 y10 y12 G) y0 y1 y2 y3 y9 y10 y12 G
theorem l4 P N2:LQ k2 (L4 P N2) (B8 P N2):=fun ⟨_,_,_,_,_,_,_,_⟩ _ ⟨I,μ,h0,hI⟩=>⟨apT _ I,apT _ μ,h0,fun ⟨_,_,_,_,_,_,_,_⟩ _ h=>hI _ _ _ _ _ _ _ _  h⟩
def B9 (P:PT) (N2:Y k1):Y k1:=fun x0 x1 x2 x3 x9 x10 H=>
  L4 P N2 x0 x1 x2 x3 x9 x10 (i64.wrap (x9+1)) H
def B10 (P:PT) (N2:Y k1):Y k1:=fun x0 x1 x2 x3 x9 x10 H=>
  pif (decide ((i64.wrap (x2-x9):Int)≥2)) (B9 P N2 x0 x1 x2 x3 x9 x10 H) (B3 P N2 x0 x1 x2 x3 x9 x10 H)
abbrev k3:Sk:=[(0,.v),(1,J),(2,J),(3,.v),(9,J),(10,J),(11,J)]
def B12 (P:PT) (N2:Y k1) (N11:Y k3):Y k3:=fun x0 x1 x2 x3 x9 x10 x11 H=>
  N11 x0 x1 x2 x3 x9 x10 (i64.wrap (x11-1)) H
def o13:=O 15285577
def B13 (P:PT) (N2:Y k1) (N11:Y k3):Y k3:=fun x0 x1 x2 x3 x9 x10 x11 H=>
  idxK x0 (i64.wrap (x11-1)) 1 (fun b1 o2=>ldI .u64 H b1 o2 (fun v3=>idxK x0 x11 1 (fun b4 o5=>ldI .u64 H b4 o5 (fun v6=>idxK x0 x11 1 (fun b7 o8=>stK H b7 o8 [(int .u64 v3)] (fun H9=>idxK x0 (i64.wrap (x11-1)) 1 (fun b10 o11=>stK H9 b10 o11 [(int .u64 v6)] (fun H12=>B12 P N2 N11 x0 x1 x2 x3 x9 x10 x11 H12))))))))
theorem q13 (P:PT) (N2:Y k1) (N11:Y k3):QD Tryz.prog T0 141 o13 [(0,false),(1,false),(2,false),(3,false),(4,false),(5,false),(6,false),(7,false),(8,false),(9,false),(10,false),(11,false),(12,false),(13,false),(14,false),(15,false),(16,false),(17,false)] (En 141 k3 (B12 P N2 N11)) k3 (B13 P N2 N11):=fun _ _ _ _ _ _ _ _ _  => by kernel_rfl
def o14:=O 30571152
def B14 (P:PT) (N2:Y k1) (N11:Y k3):Y k3:=fun x0 x1 x2 x3 x9 x10 x11 H=>
  idxK x0 x11 1 (fun b1 o2=>ldI .u64 H b1 o2 (fun v3=>idxK x0 (i64.wrap (x11-1)) 1 (fun b4 o5=>ldI .u64 H b4 o5 (fun v6=>callV Tryz.prog T0 x3 [(int .u64 v3),(int .u64 v6)] H (fun v7 H8=>asI .i64 v7 (fun v9=>pif (!(decide ((v9:Int)<0))) (B10 P N2 x0 x1 x2 x3 x9 x10 H8) (B13 P N2 N11 x0 x1 x2 x3 x9 x10 x11 H8)))))))
theorem q14 (P:PT) (N2:Y k1) (N11:Y k3):QD Tryz.prog T0 141 o14 [(0,false),(1,false),(2,false),(3,false),(4,false),(5,false),(6,false),(7,false),(8,false),(9,false),(10,false),(11,false),(12,false)] (cnd 84 (En 141 k1 (B10 P N2)) (En 141 k3 (B13 P N2 N11))) k3 (B14 P N2 N11):=fun _ _ _ _ _ _ _ _ _  => by kernel_rfl
def B15 (P:PT) (N2:Y k1) (N11:Y k3):Y k3:=fun x0 x1 x2 x3 x9 x10 x11 H=>
  pif (decide ((x11:Int)≥1)) (B14 P N2 N11 x0 x1 x2 x3 x9 x10 x11 H) (B10 P N2 x0 x1 x2 x3 x9 x10 H)
def L11 (P:PT) (N2:Y k1):Y k3:=fun x0 x1 x2 x3 x9 x10 x11 H=>
  ∃ (I:Y k3) (μ:NTy k3 (AHeap→Nat)),I x0 x1 x2 x3 x9 x10 x11 H∧∀ y0 y1 y2 y3 y9 y10 y11 G,I y0 y1 y2 y3 y9 y10 y11 G→B15 P N2 (fun z0 z1 z2 z3 z9 z10 z11 G'=>I z0 z1 z2 z3 z9 z10 z11 G'∧μ z0 z1 z2 z3 z9 z10 z11 G'<μ y0 y1 y2 y3 y9 y10 y11 G) y0 y1 y2 y3 y9 y10 y11 G
theorem l11 P N2:LQ k3 (L11 P N2) (B15 P N2):=fun ⟨_,_,_,_,_,_,_,_⟩ _ ⟨I,μ,h0,hI⟩=>⟨apT _ I,apT _ μ,h0,fun ⟨_,_,_,_,_,_,_,_⟩ _ h=>hI _ _ _ _ _ _ _ _  h⟩
def B16 (P:PT) (N2:Y k1):Y k1:=fun x0 x1 x2 x3 x9 x10 H=>
  L11 P N2 x0 x1 x2 x3 x9 x10 (i64.wrap (x9-1)) H
def B17 (P:PT) (N2:Y k1):Y k1:=fun x0 x1 x2 x3 x9 x10 H=>
  pif (decide ((i64.wrap (x9-x1):Int)≥2)) (B16 P N2 x0 x1 x2 x3 x9 x10 H) (B10 P N2 x0 x1 x2 x3 x9 x10 H)
def o18:=O 14926
def B18 (P:PT) (N2:Y k1):Y k1:=fun x0 x1 x2 x3 x9 x10 H=>
  idxK x0 (i64.wrap (x9-1)) 1 (fun b1 o2=>ldI .u64 H b1 o2 (fun v3=>idxK x0 x9 1 (fun b4 o5=>ldI .u64 H b4 o5 (fun v6=>idxK x0 x9 1 (fun b7 o8=>stK H b7 o8 [(int .u64 v3)] (fun H9=>idxK x0 (i64.wrap (x9-1)) 1 (fun b10 o11=>stK H9 b10 o11 [(int .u64 v6)] (fun H12=>B17 P N2 x0 x1 x2 x3 x9 x10 H12))))))))
theorem q18 (P:PT) (N2:Y k1):QD Tryz.prog T0 141 o18 [(0,false),(1,false),(2,false),(3,false),(4,false),(5,false),(6,false),(7,false),(8,false),(9,false),(10,false),(11,false),(12,false),(13,false),(14,false),(15,false),(16,false),(17,false)] (En 141 k1 (B17 P N2)) k1 (B18 P N2):=fun _ _ _ _ _ _ _ _  => by kernel_rfl
def B19 (P:PT) (N2:Y k1):Y k0:=fun H=>
  P (bool false) H
def B20 (P:PT) (N2:Y k1):Y k1:=fun x0 x1 x2 x3 x9 x10 H=>
  pif (decide ((i64.wrap (x2-x1):Int)<50)) (B19 P N2 H) (B18 P N2 x0 x1 x2 x3 x9 x10 H)
def B21 (P:PT) (N2:Y k1):Y k0:=fun H=>
  P (bool true) H
def B22 (P:PT) (N2:Y k1):Y k1:=fun x0 x1 x2 x3 x9 x10 H=>
  pif ((x9:Int)==x2) (B21 P N2 H) (B20 P N2 x0 x1 x2 x3 x9 x10 H)
def B24 (P:PT) (N2:Y k1) (N23:Y k1):Y k1:=fun x0 x1 x2 x3 x9 x10 H=>
  N23 x0 x1 x2 x3 (i64.wrap (x9+1)) x10 H
def o25:=O 29824
def B25 (P:PT) (N2:Y k1) (N23:Y k1):Y k1:=fun x0 x1 x2 x3 x9 x10 H=>
  pif (decide ((x9:Int)<x2)) (idxK x0 x9 1 (fun b1 o2=>ldI .u64 H b1 o2 (fun v3=>idxK x0 (i64.wrap (x9-1)) 1 (fun b4 o5=>ldI .u64 H b4 o5 (fun v6=>callV Tryz.prog T0 x3 [(int .u64 v3),(int .u64 v6)] H (fun v7 H8=>asI .i64 v7 (fun v9=>pif (!(decide ((v9:Int)<0))) (B24 P N2 N23 x0 x1 x2 x3 x9 x10 H8) (B22 P N2 x0 x1 x2 x3 x9 x10 H8)))))))) (B22 P N2 x0 x1 x2 x3 x9 x10 H)
theorem q25 (P:PT) (N2:Y k1) (N23:Y k1):QD Tryz.prog T0 141 o25 [(0,false),(1,false),(2,false),(3,false),(4,false),(5,false),(6,false),(7,false),(8,false),(9,false),(10,false),(11,false),(12,false),(13,false),(14,false),(15,false),(16,false),(17,false)] (cnd 36 (En 141 k1 (B24 P N2 N23)) (En 141 k1 (B22 P N2))) k1 (B25 P N2 N23):=fun _ _ _ _ _ _ _ _  => by kernel_rfl
def L23 (P:PT) (N2:Y k1):Y k1:=fun x0 x1 x2 x3 x9 x10 H=>
  ∃ (I:Y k1) (μ:NTy k1 (AHeap→Nat)),I x0 x1 x2 x3 x9 x10 H∧∀ y0 y1 y2 y3 y9 y10 G,I y0 y1 y2 y3 y9 y10 G→B25 P N2 (fun z0 z1 z2 z3 z9 z10 G'=>I z0 z1 z2 z3 z9 z10 G'∧μ z0 z1 z2 z3 z9 z10 G'<μ y0 y1 y2 y3 y9 y10 G) y0 y1 y2 y3 y9 y10 G
theorem l23 P N2:LQ k1 (L23 P N2) (B25 P N2):=fun ⟨_,_,_,_,_,_,_⟩ _ ⟨I,μ,h0,hI⟩=>⟨apT _ I,apT _ μ,h0,fun ⟨_,_,_,_,_,_,_⟩ _ h=>hI _ _ _ _ _ _ _  h⟩
def B26 (P:PT) (N2:Y k1):Y k1:=fun x0 x1 x2 x3 x9 x10 H=>
  pif (decide ((x10:Int)<5)) (L23 P N2 x0 x1 x2 x3 x9 x10 H) (B1 P H)
def L2 (P:PT):Y k1:=fun x0 x1 x2 x3 x9 x10 H=>
  ∃ (I:Y k1) (μ:NTy k1 (AHeap→Nat)),I x0 x1 x2 x3 x9 x10 H∧∀ y0 y1 y2 y3 y9 y10 G,I y0 y1 y2 y3 y9 y10 G→B26 P (fun z0 z1 z2 z3 z9 z10 G'=>I z0 z1 z2 z3 z9 z10 G'∧μ z0 z1 z2 z3 z9 z10 G'<μ y0 y1 y2 y3 y9 y10 G) y0 y1 y2 y3 y9 y10 G
theorem l2 P:LQ k1 (L2 P) (B26 P):=fun ⟨_,_,_,_,_,_,_⟩ _ ⟨I,μ,h0,hI⟩=>⟨apT _ I,apT _ μ,h0,fun ⟨_,_,_,_,_,_,_⟩ _ h=>hI _ _ _ _ _ _ _  h⟩
abbrev k4:Sk:=[(0,.v),(1,J),(2,J),(3,.v),(9,J)]
def B27 (P:PT):Y k4:=fun x0 x1 x2 x3 x9 H=>
  L2 P x0 x1 x2 x3 x9 0 H
abbrev k5:Sk:=[(0,.v),(1,J),(2,J),(3,.v)]
def B28 (P:PT):Y k5:=fun x0 x1 x2 x3 H=>
  B27 P x0 x1 x2 x3 (i64.wrap (x1+1)) H
def B29 (P:PT):Y k5:=fun x0 x1 x2 x3 H=>
  B28 P x0 x1 x2 x3 H
def code:Code:=(.seq (R 0 2) (.seq (R 1 6) (.seq (.seq (R 2 28) (.block 0 (.loop (.seq (.seq (R 3 464) (.cond (.tmp 16) .skip (.exit 0))) (.seq (.block 1 (.seq (.block 2 (.loop (.seq (.seq (.region 5 ⟨o25⟩ true) (.cond (.tmp 36) .skip (.exit 2))) (.block 3 (R 6 29826))))) (.seq (.seq (R 7 7460) (.cond (.tmp 41) (.seq (R 8 29844) .ret) .skip)) (.seq (.seq (R 9 14924) (.cond (.tmp 45) (.seq (R 10 59700) .ret) .skip)) (.seq (.region 11 ⟨o18⟩ true) (.seq (.seq (R 12 59708) (.cond (.tmp 65) (.seq (R 13 238836) (.block 4 (.loop (.seq (.seq (R 14 3821392) (.cond (.tmp 69) .skip (.exit 4))) (.seq (.block 5 (.seq (.seq (.region 16 ⟨o14⟩ true) (.cond (.tmp 84) (.exit 4) .skip)) (.region 17 ⟨o13⟩ true))) (R 15 3821395)))))) .skip)) (.seq (R 18 59710) (.cond (.tmp 104) (.seq (R 19 238844) (.block 6 (.loop (.seq (.seq (R 20 3821520) (.cond (.tmp 109) .skip (.exit 6))) (.seq (.block 7 (.seq (.seq (.region 22 ⟨o7⟩ true) (.cond (.tmp 124) (.exit 6) .skip)) (.region 23 ⟨o6⟩ true))) (R 21 3821523)))))) .skip)))))))) (R 4 467)))))) (.seq (R 24 30) .ret))))
theorem body:Tryz.f176.body=some code:=by kernel_rfl
theorem main P:Z 141 k5 (B29 P) code (ret P):=
  (r_seq (b (E k5 (B28 P))) (r_seq (b (E k4 (B27 P))) (r_seq (r_seq (b (E k1 (L2 P))) (r_block (rL (l2 P) (fun N2=>(r_seq (r_seq (b (cnd 16 (E k1 (L23 P N2)) (E k0 (B1 P)))) (r_cond rfl r_skip (r_exit (fun _ _ h=>h)))) (r_seq (r_block (r_seq (r_block (rL (l23 P N2) (fun N23=>(r_seq (r_seq (rD T0_ok mixed [(0,false),(1,false),(2,false),(3,false),(4,false),(5,false),(6,false),(7,false),(8,false),(9,false),(10,false),(11,false),(12,false),(13,false),(14,false),(15,false),(16,false),(17,false)] (by kernel_rfl) (q25 P N2 N23)) (r_cond rfl r_skip (r_exit (fun _ _ h=>h)))) (r_block (b (E k1 N23))))))) (r_seq (r_seq (b (cnd 41 (E k0 (B21 P N2)) (E k1 (B20 P N2)))) (r_cond rfl (r_seq (b (ret P)) r_ret) r_skip)) (r_seq (r_seq (b (cnd 45 (E k0 (B19 P N2)) (E k1 (B18 P N2)))) (r_cond rfl (r_seq (b (ret P)) r_ret) r_skip)) (r_seq (rD T0_ok mixed [(0,false),(1,false),(2,false),(3,false),(4,false),(5,false),(6,false),(7,false),(8,false),(9,false),(10,false),(11,false),(12,false),(13,false),(14,false),(15,false),(16,false),(17,false)] (by kernel_rfl) (q18 P N2)) (r_seq (r_seq (b (cnd 65 (E k1 (B16 P N2)) (E k1 (B10 P N2)))) (r_cond rfl (r_seq (b (E k3 (L11 P N2))) (r_block (rL (l11 P N2) (fun N11=>(r_seq (r_seq (b (cnd 69 (E k3 (B14 P N2 N11)) (E k1 (B10 P N2)))) (r_cond rfl r_skip (r_exit (fun _ _ h=>h)))) (r_seq (r_block (r_seq (r_seq (rD T0_ok mixed [(0,false),(1,false),(2,false),(3,false),(4,false),(5,false),(6,false),(7,false),(8,false),(9,false),(10,false),(11,false),(12,false)] (by kernel_rfl) (q14 P N2 N11)) (r_cond rfl (r_exit (fun _ _ h=>h)) r_skip)) (rD T0_ok mixed [(0,false),(1,false),(2,false),(3,false),(4,false),(5,false),(6,false),(7,false),(8,false),(9,false),(10,false),(11,false),(12,false),(13,false),(14,false),(15,false),(16,false),(17,false)] (by kernel_rfl) (q13 P N2 N11)))) (b (E k3 N11)))))))) r_skip)) (r_seq (b (cnd 104 (E k1 (B9 P N2)) (E k1 (B3 P N2)))) (r_cond rfl (r_seq (b (E k2 (L4 P N2))) (r_block (rL (l4 P N2) (fun N4=>(r_seq (r_seq (b (cnd 109 (E k2 (B7 P N2 N4)) (E k1 (B3 P N2)))) (r_cond rfl r_skip (r_exit (fun _ _ h=>h)))) (r_seq (r_block (r_seq (r_seq (rD T0_ok mixed [(0,false),(1,false),(2,false),(3,false),(4,false),(5,false),(6,false),(7,false),(8,false),(9,false),(10,false),(11,false),(12,false)] (by kernel_rfl) (q7 P N2 N4)) (r_cond rfl (r_exit (fun _ _ h=>h)) r_skip)) (rD T0_ok mixed [(0,false),(1,false),(2,false),(3,false),(4,false),(5,false),(6,false),(7,false),(8,false),(9,false),(10,false),(11,false),(12,false),(13,false),(14,false),(15,false),(16,false),(17,false)] (by kernel_rfl) (q6 P N2 N4)))) (b (E k2 N4)))))))) r_skip)))))))) (b (E k1 N2)))))))) (r_seq (b (ret P)) r_ret))))
theorem ac (P:PT) (x0:Value) (x1 x2:Int) (x3:Value) (H:AHeap) (h:B29 P x0 x1 x2 x3 H):A 176 [x0,(I x1),(I x2),x3] H P:=
  r_fn T0_ok (c:=code) (n:=141) Tryz.func176 body (by kernel_rfl) (main P) (En_mk (x0,x1,x2,x3,()) (by kernel_rfl) ⟨by kernel_rfl,by kernel_rfl,by kernel_rfl,by kernel_rfl,trivial⟩ h)

end F176
namespace F177
abbrev E:=En 90
def O (k:Nat):=ob Tryz.f177 (pth k)
abbrev R (i k:Nat):Code:=.region i ⟨O k⟩ false
def ret (P:PT):EP:=retE T0 90 Tryz.f177 P
abbrev k0:Sk:=[(11,J)]
def B1 (P:PT):Y k0:=fun x11 H=>
  P (I x11) H
abbrev k1:Sk:=[(0,.v),(1,J),(4,.v),(11,J),(12,J)]
def B3 (P:PT) (N2:Y k1):Y k1:=fun x0 x1 x4 x11 x12 H=>
  N2 x0 x1 x4 x11 (i64.wrap (x12-1)) H
def B4 (P:PT) (N2:Y k1):Y k1:=fun x0 x1 x4 x11 x12 H=>
  B3 P N2 x0 x1 x4 (i64.wrap (x11+1)) x12 H
def o5:=O 3854
def B5 (P:PT) (N2:Y k1):Y k1:=fun x0 x1 x4 x11 x12 H=>
  idxK x0 x12 1 (fun b1 o2=>ldI .u64 H b1 o2 (fun v3=>idxK x0 x11 1 (fun b4 o5=>ldI .u64 H b4 o5 (fun v6=>idxK x0 x11 1 (fun b7 o8=>stK H b7 o8 [(int .u64 v3)] (fun H9=>idxK x0 x12 1 (fun b10 o11=>stK H9 b10 o11 [(int .u64 v6)] (fun H12=>B4 P N2 x0 x1 x4 x11 x12 H12))))))))
theorem q5 (P:PT) (N2:Y k1):QD Tryz.prog T0 90 o5 [(0,false),(1,false),(2,false),(3,false),(4,false),(5,false),(6,false),(7,false),(8,false),(9,false),(10,false),(11,false),(12,false),(13,false),(14,false),(15,false)] (En 90 k1 (B4 P N2)) k1 (B5 P N2):=fun _ _ _ _ _ _ _  => by kernel_rfl
def B6 (P:PT) (N2:Y k1):Y k1:=fun x0 x1 x4 x11 x12 H=>
  pif (decide ((x11:Int)>x12)) (B1 P x11 H) (B5 P N2 x0 x1 x4 x11 x12 H)
def o8:=O 15394
def B8 (P:PT) (N2:Y k1) (N7:Y k1):Y k1:=fun x0 x1 x4 x11 x12 H=>
  N7 x0 x1 x4 x11 (i64.wrap (x12-1)) H
def o9:=O 15392
def B9 (P:PT) (N2:Y k1) (N7:Y k1):Y k1:=fun x0 x1 x4 x11 x12 H=>
  pif (decide ((x11:Int)≤x12)) (idxK x0 x1 1 (fun b1 o2=>ldI .u64 H b1 o2 (fun v3=>idxK x0 x12 1 (fun b4 o5=>ldI .u64 H b4 o5 (fun v6=>callV Tryz.prog T0 x4 [(int .u64 v3),(int .u64 v6)] H (fun v7 H8=>asI .i64 v7 (fun v9=>pif (decide ((v9:Int)<0)) (B8 P N2 N7 x0 x1 x4 x11 x12 H8) (B6 P N2 x0 x1 x4 x11 x12 H8)))))))) (B6 P N2 x0 x1 x4 x11 x12 H)
theorem q9 (P:PT) (N2:Y k1) (N7:Y k1):QD Tryz.prog T0 90 o9 [(0,false),(1,false),(2,false),(3,false),(4,false),(5,false),(6,false),(7,false),(8,false),(9,false),(10,false),(11,false),(12,false),(13,false),(14,false),(15,false)] (cnd 65 (En 90 k1 (B8 P N2 N7)) (En 90 k1 (B6 P N2))) k1 (B9 P N2 N7):=fun _ _ _ _ _ _ _  => by kernel_rfl
def L7 (P:PT) (N2:Y k1):Y k1:=fun x0 x1 x4 x11 x12 H=>
  ∃ (I:Y k1) (μ:NTy k1 (AHeap→Nat)),I x0 x1 x4 x11 x12 H∧∀ y0 y1 y4 y11 y12 G,I y0 y1 y4 y11 y12 G→B9 P N2 (fun z0 z1 z4 z11 z12 G'=>I z0 z1 z4 z11 z12 G'∧μ z0 z1 z4 z11 z12 G'<μ y0 y1 y4 y11 y12 G) y0 y1 y4 y11 y12 G
theorem l7 P N2:LQ k1 (L7 P N2) (B9 P N2):=fun ⟨_,_,_,_,_,_⟩ _ ⟨I,μ,h0,hI⟩=>⟨apT _ I,apT _ μ,h0,fun ⟨_,_,_,_,_,_⟩ _ h=>hI _ _ _ _ _ _  h⟩
def o11:=O 7682
def B11 (P:PT) (N2:Y k1) (N10:Y k1):Y k1:=fun x0 x1 x4 x11 x12 H=>
  N10 x0 x1 x4 (i64.wrap (x11+1)) x12 H
def o12:=O 7680
def B12 (P:PT) (N2:Y k1) (N10:Y k1):Y k1:=fun x0 x1 x4 x11 x12 H=>
  pif (decide ((x11:Int)≤x12)) (idxK x0 x1 1 (fun b1 o2=>ldI .u64 H b1 o2 (fun v3=>idxK x0 x11 1 (fun b4 o5=>ldI .u64 H b4 o5 (fun v6=>callV Tryz.prog T0 x4 [(int .u64 v3),(int .u64 v6)] H (fun v7 H8=>asI .i64 v7 (fun v9=>pif (!(decide ((v9:Int)<0))) (B11 P N2 N10 x0 x1 x4 x11 x12 H8) (L7 P N2 x0 x1 x4 x11 x12 H8)))))))) (L7 P N2 x0 x1 x4 x11 x12 H)
theorem q12 (P:PT) (N2:Y k1) (N10:Y k1):QD Tryz.prog T0 90 o12 [(0,false),(1,false),(2,false),(3,false),(4,false),(5,false),(6,false),(7,false),(8,false),(9,false),(10,false),(11,false),(12,false),(13,false),(14,false),(15,false),(16,false)] (cnd 47 (En 90 k1 (B11 P N2 N10)) (En 90 k1 (L7 P N2))) k1 (B12 P N2 N10):=fun _ _ _ _ _ _ _  => by kernel_rfl
def L10 (P:PT) (N2:Y k1):Y k1:=fun x0 x1 x4 x11 x12 H=>
  ∃ (I:Y k1) (μ:NTy k1 (AHeap→Nat)),I x0 x1 x4 x11 x12 H∧∀ y0 y1 y4 y11 y12 G,I y0 y1 y4 y11 y12 G→B12 P N2 (fun z0 z1 z4 z11 z12 G'=>I z0 z1 z4 z11 z12 G'∧μ z0 z1 z4 z11 z12 G'<μ y0 y1 y4 y11 y12 G) y0 y1 y4 y11 y12 G
theorem l10 P N2:LQ k1 (L10 P N2) (B12 P N2):=fun ⟨_,_,_,_,_,_⟩ _ ⟨I,μ,h0,hI⟩=>⟨apT _ I,apT _ μ,h0,fun ⟨_,_,_,_,_,_⟩ _ h=>hI _ _ _ _ _ _  h⟩
def L2 (P:PT):Y k1:=fun x0 x1 x4 x11 x12 H=>
  ∃ (I:Y k1) (μ:NTy k1 (AHeap→Nat)),I x0 x1 x4 x11 x12 H∧∀ y0 y1 y4 y11 y12 G,I y0 y1 y4 y11 y12 G→L10 P (fun z0 z1 z4 z11 z12 G'=>I z0 z1 z4 z11 z12 G'∧μ z0 z1 z4 z11 z12 G'<μ y0 y1 y4 y11 y12 G) y0 y1 y4 y11 y12 G
theorem l2 P:LQ k1 (L2 P) (L10 P):=fun ⟨_,_,_,_,_,_⟩ _ ⟨I,μ,h0,hI⟩=>⟨apT _ I,apT _ μ,h0,fun ⟨_,_,_,_,_,_⟩ _ h=>hI _ _ _ _ _ _  h⟩
abbrev k2:Sk:=[(0,.v),(1,J),(2,J),(4,.v)]
def B13 (P:PT):Y k2:=fun x0 x1 x2 x4 H=>
  L2 P x0 x1 x4 (i64.wrap (x1+1)) (i64.wrap (x2-1)) H
abbrev k3:Sk:=[(0,.v),(1,J),(2,J),(3,J),(4,.v)]
def o14:=O 6
def B14 (P:PT):Y k3:=fun x0 x1 x2 x3 x4 H=>
  idxK x0 x3 1 (fun b1 o2=>ldI .u64 H b1 o2 (fun v3=>idxK x0 x1 1 (fun b4 o5=>ldI .u64 H b4 o5 (fun v6=>idxK x0 x1 1 (fun b7 o8=>stK H b7 o8 [(int .u64 v3)] (fun H9=>idxK x0 x3 1 (fun b10 o11=>stK H9 b10 o11 [(int .u64 v6)] (fun H12=>B13 P x0 x1 x2 x4 H12))))))))
theorem q14 (P:PT):QD Tryz.prog T0 90 o14 [(0,false),(1,false),(2,false),(3,false),(4,false),(5,false),(6,false),(7,false),(8,false),(9,false),(10,false),(11,false),(12,false),(13,false),(14,false),(15,false)] (En 90 k2 (B13 P)) k3 (B14 P):=fun _ _ _ _ _ _ _  => by kernel_rfl
def B15 (P:PT):Y k3:=fun x0 x1 x2 x3 x4 H=>
  B14 P x0 x1 x2 x3 x4 H
def code:Code:=(.seq (R 0 2) (.seq (.region 1 ⟨o14⟩ true) (.seq (R 2 14) (.seq (.block 0 (.loop (.block 1 (.seq (.block 2 (.loop (.seq (.seq (.region 3 ⟨o12⟩ true) (.cond (.tmp 47) .skip (.exit 2))) (.block 3 (R 4 7682))))) (.seq (.block 4 (.loop (.seq (.seq (.region 5 ⟨o9⟩ true) (.cond (.tmp 65) .skip (.exit 4))) (.block 5 (R 6 15394))))) (.seq (.seq (R 7 3852) (.cond (.tmp 70) (.exit 0) .skip)) (.seq (.region 8 ⟨o5⟩ true) (.seq (R 9 7710) (R 10 7711))))))))) (.seq (R 11 62) .ret)))))
theorem body:Tryz.f177.body=some code:=by kernel_rfl
theorem main P:Z 90 k3 (B15 P) code (ret P):=
  (r_seq (b (E k3 (B14 P))) (r_seq (rD T0_ok mixed [(0,false),(1,false),(2,false),(3,false),(4,false),(5,false),(6,false),(7,false),(8,false),(9,false),(10,false),(11,false),(12,false),(13,false),(14,false),(15,false)] (by kernel_rfl) (q14 P)) (r_seq (b (E k1 (L2 P))) (r_seq (r_block (rL (l2 P) (fun N2=>(r_block (r_seq (r_block (rL (l10 P N2) (fun N10=>(r_seq (r_seq (rD T0_ok mixed [(0,false),(1,false),(2,false),(3,false),(4,false),(5,false),(6,false),(7,false),(8,false),(9,false),(10,false),(11,false),(12,false),(13,false),(14,false),(15,false),(16,false)] (by kernel_rfl) (q12 P N2 N10)) (r_cond rfl r_skip (r_exit (fun _ _ h=>h)))) (r_block (b (E k1 N10))))))) (r_seq (r_block (rL (l7 P N2) (fun N7=>(r_seq (r_seq (rD T0_ok mixed [(0,false),(1,false),(2,false),(3,false),(4,false),(5,false),(6,false),(7,false),(8,false),(9,false),(10,false),(11,false),(12,false),(13,false),(14,false),(15,false)] (by kernel_rfl) (q9 P N2 N7)) (r_cond rfl r_skip (r_exit (fun _ _ h=>h)))) (r_block (b (E k1 N7))))))) (r_seq (r_seq (b (cnd 70 (E k0 (B1 P)) (E k1 (B5 P N2)))) (r_cond rfl (r_exit (fun _ _ h=>h)) r_skip)) (r_seq (rD T0_ok mixed [(0,false),(1,false),(2,false),(3,false),(4,false),(5,false),(6,false),(7,false),(8,false),(9,false),(10,false),(11,false),(12,false),(13,false),(14,false),(15,false)] (by kernel_rfl) (q5 P N2)) (r_seq (b (E k1 (B3 P N2))) (b (E k1 N2))))))))))) (r_seq (b (ret P)) r_ret)))))
theorem ac (P:PT) (x0:Value) (x1 x2 x3:Int) (x4:Value) (H:AHeap) (h:B15 P x0 x1 x2 x3 x4 H):A 177 [x0,(I x1),(I x2),(I x3),x4] H P:=
  r_fn T0_ok (c:=code) (n:=90) Tryz.func177 body (by kernel_rfl) (main P) (En_mk (x0,x1,x2,x3,x4,()) (by kernel_rfl) ⟨by kernel_rfl,by kernel_rfl,by kernel_rfl,by kernel_rfl,by kernel_rfl,trivial⟩ h)

end F177
namespace F178
abbrev E:=En 178
def O (k:Nat):=ob Tryz.f178 (pth k)
abbrev R (i k:Nat):Code:=.region i ⟨O k⟩ false
def ret (P:PT):EP:=retE T0 178 Tryz.f178 P
abbrev k0:Sk:=[(13,J)]
def B1 (P:PT):Y k0:=fun x13 H=>
  P (tuple ⟨[(I x13),(bool false)]⟩) H
abbrev k1:Sk:=[(0,.v),(1,J),(13,J)]
def o2:=O 4094
def B2 (P:PT):Y k1:=fun x0 x1 x13 H=>
  idxK x0 x1 1 (fun b1 o2=>ldI .u64 H b1 o2 (fun v3=>idxK x0 x13 1 (fun b4 o5=>ldI .u64 H b4 o5 (fun v6=>idxK x0 x13 1 (fun b7 o8=>stK H b7 o8 [(int .u64 v3)] (fun H9=>idxK x0 x1 1 (fun b10 o11=>stK H9 b10 o11 [(int .u64 v6)] (fun H12=>B1 P x13 H12))))))))
theorem q2 (P:PT):QD Tryz.prog T0 178 o2 [(0,false),(1,false),(2,false),(3,false),(4,false),(5,false),(6,false),(7,false),(8,false),(9,false),(10,false),(11,false),(12,false),(13,false),(14,false),(15,false)] (En 178 k0 (B1 P)) k1 (B2 P):=fun _ _ _ _ _  => by kernel_rfl
abbrev k2:Sk:=[(0,.v),(1,J),(4,.v),(12,J),(13,J)]
def B4 (P:PT) (N3:Y k2):Y k2:=fun x0 x1 x4 x12 x13 H=>
  N3 x0 x1 x4 x12 (i64.wrap (x13-1)) H
def o5:=O 523806
def B5 (P:PT) (N3:Y k2):Y k2:=fun x0 x1 x4 x12 x13 H=>
  B4 P N3 x0 x1 x4 (i64.wrap (x12+1)) x13 H
def o6:=O 261902
def B6 (P:PT) (N3:Y k2):Y k2:=fun x0 x1 x4 x12 x13 H=>
  idxK x0 x13 1 (fun b1 o2=>ldI .u64 H b1 o2 (fun v3=>idxK x0 x12 1 (fun b4 o5=>ldI .u64 H b4 o5 (fun v6=>idxK x0 x12 1 (fun b7 o8=>stK H b7 o8 [(int .u64 v3)] (fun H9=>idxK x0 x13 1 (fun b10 o11=>stK H9 b10 o11 [(int .u64 v6)] (fun H12=>B5 P N3 x0 x1 x4 x12 x13 H12))))))))
theorem q6 (P:PT) (N3:Y k2):QD Tryz.prog T0 178 o6 [(0,false),(1,false),(2,false),(3,false),(4,false),(5,false),(6,false),(7,false),(8,false),(9,false),(10,false),(11,false),(12,false),(13,false),(14,false),(15,false)] (En 178 k2 (B5 P N3)) k2 (B6 P N3):=fun _ _ _ _ _ _ _  => by kernel_rfl
def B7 (P:PT) (N3:Y k2):Y k2:=fun x0 x1 x4 x12 x13 H=>
  pif (decide ((x12:Int)>x13)) (B2 P x0 x1 x13 H) (B6 P N3 x0 x1 x4 x12 x13 H)
def B9 (P:PT) (N3:Y k2) (N8:Y k2):Y k2:=fun x0 x1 x4 x12 x13 H=>
  N8 x0 x1 x4 x12 (i64.wrap (x13-1)) H
def o10:=O 1047584
def B10 (P:PT) (N3:Y k2) (N8:Y k2):Y k2:=fun x0 x1 x4 x12 x13 H=>
  pif (decide ((x12:Int)≤x13)) (idxK x0 x13 1 (fun b1 o2=>ldI .u64 H b1 o2 (fun v3=>idxK x0 x1 1 (fun b4 o5=>ldI .u64 H b4 o5 (fun v6=>callV Tryz.prog T0 x4 [(int .u64 v3),(int .u64 v6)] H (fun v7 H8=>asI .i64 v7 (fun v9=>pif (!(decide ((v9:Int)<0))) (B9 P N3 N8 x0 x1 x4 x12 x13 H8) (B7 P N3 x0 x1 x4 x12 x13 H8)))))))) (B7 P N3 x0 x1 x4 x12 x13 H)
theorem q10 (P:PT) (N3:Y k2) (N8:Y k2):QD Tryz.prog T0 178 o10 [(0,false),(1,false),(2,false),(3,false),(4,false),(5,false),(6,false),(7,false),(8,false),(9,false),(10,false),(11,false),(12,false),(13,false),(14,false),(15,false),(16,false)] (cnd 139 (En 178 k2 (B9 P N3 N8)) (En 178 k2 (B7 P N3))) k2 (B10 P N3 N8):=fun _ _ _ _ _ _ _  => by kernel_rfl
def L8 (P:PT) (N3:Y k2):Y k2:=fun x0 x1 x4 x12 x13 H=>
  ∃ (I:Y k2) (μ:NTy k2 (AHeap→Nat)),I x0 x1 x4 x12 x13 H∧∀ y0 y1 y4 y12 y13 G,I y0 y1 y4 y12 y13 G→B10 P N3 (fun z0 z1 z4 z12 z13 G'=>I z0 z1 z4 z12 z13 G'∧μ z0 z1 z4 z12 z13 G'<μ y0 y1 y4 y12 y13 G) y0 y1 y4 y12 y13 G
theorem l8 P N3:LQ k2 (L8 P N3) (B10 P N3):=fun ⟨_,_,_,_,_,_⟩ _ ⟨I,μ,h0,hI⟩=>⟨apT _ I,apT _ μ,h0,fun ⟨_,_,_,_,_,_⟩ _ h=>hI _ _ _ _ _ _  h⟩
def B12 (P:PT) (N3:Y k2) (N11:Y k2):Y k2:=fun x0 x1 x4 x12 x13 H=>
  N11 x0 x1 x4 (i64.wrap (x12+1)) x13 H
def o13:=O 523776
def B13 (P:PT) (N3:Y k2) (N11:Y k2):Y k2:=fun x0 x1 x4 x12 x13 H=>
  pif (decide ((x12:Int)≤x13)) (idxK x0 x12 1 (fun b1 o2=>ldI .u64 H b1 o2 (fun v3=>idxK x0 x1 1 (fun b4 o5=>ldI .u64 H b4 o5 (fun v6=>callV Tryz.prog T0 x4 [(int .u64 v3),(int .u64 v6)] H (fun v7 H8=>asI .i64 v7 (fun v9=>pif (decide ((v9:Int)<0)) (B12 P N3 N11 x0 x1 x4 x12 x13 H8) (L8 P N3 x0 x1 x4 x12 x13 H8)))))))) (L8 P N3 x0 x1 x4 x12 x13 H)
theorem q13 (P:PT) (N3:Y k2) (N11:Y k2):QD Tryz.prog T0 178 o13 [(0,false),(1,false),(2,false),(3,false),(4,false),(5,false),(6,false),(7,false),(8,false),(9,false),(10,false),(11,false),(12,false),(13,false),(14,false),(15,false)] (cnd 120 (En 178 k2 (B12 P N3 N11)) (En 178 k2 (L8 P N3))) k2 (B13 P N3 N11):=fun _ _ _ _ _ _ _  => by kernel_rfl
def L11 (P:PT) (N3:Y k2):Y k2:=fun x0 x1 x4 x12 x13 H=>
  ∃ (I:Y k2) (μ:NTy k2 (AHeap→Nat)),I x0 x1 x4 x12 x13 H∧∀ y0 y1 y4 y12 y13 G,I y0 y1 y4 y12 y13 G→B13 P N3 (fun z0 z1 z4 z12 z13 G'=>I z0 z1 z4 z12 z13 G'∧μ z0 z1 z4 z12 z13 G'<μ y0 y1 y4 y12 y13 G) y0 y1 y4 y12 y13 G
theorem l11 P N3:LQ k2 (L11 P N3) (B13 P N3):=fun ⟨_,_,_,_,_,_⟩ _ ⟨I,μ,h0,hI⟩=>⟨apT _ I,apT _ μ,h0,fun ⟨_,_,_,_,_,_⟩ _ h=>hI _ _ _ _ _ _  h⟩
def L3 (P:PT):Y k2:=fun x0 x1 x4 x12 x13 H=>
  ∃ (I:Y k2) (μ:NTy k2 (AHeap→Nat)),I x0 x1 x4 x12 x13 H∧∀ y0 y1 y4 y12 y13 G,I y0 y1 y4 y12 y13 G→L11 P (fun z0 z1 z4 z12 z13 G'=>I z0 z1 z4 z12 z13 G'∧μ z0 z1 z4 z12 z13 G'<μ y0 y1 y4 y12 y13 G) y0 y1 y4 y12 y13 G
theorem l3 P:LQ k2 (L3 P) (L11 P):=fun ⟨_,_,_,_,_,_⟩ _ ⟨I,μ,h0,hI⟩=>⟨apT _ I,apT _ μ,h0,fun ⟨_,_,_,_,_,_⟩ _ h=>hI _ _ _ _ _ _  h⟩
def B14 (P:PT):Y k2:=fun x0 x1 x4 x12 x13 H=>
  L3 P x0 x1 x4 x12 (i64.wrap (x13-1)) H
def B15 (P:PT):Y k2:=fun x0 x1 x4 x12 x13 H=>
  B14 P x0 x1 x4 (i64.wrap (x12+1)) x13 H
def o16:=O 254
def B16 (P:PT):Y k2:=fun x0 x1 x4 x12 x13 H=>
  idxK x0 x13 1 (fun b1 o2=>ldI .u64 H b1 o2 (fun v3=>idxK x0 x12 1 (fun b4 o5=>ldI .u64 H b4 o5 (fun v6=>idxK x0 x12 1 (fun b7 o8=>stK H b7 o8 [(int .u64 v3)] (fun H9=>idxK x0 x13 1 (fun b10 o11=>stK H9 b10 o11 [(int .u64 v6)] (fun H12=>B15 P x0 x1 x4 x12 x13 H12))))))))
theorem q16 (P:PT):QD Tryz.prog T0 178 o16 [(0,false),(1,false),(2,false),(3,false),(4,false),(5,false),(6,false),(7,false),(8,false),(9,false),(10,false),(11,false),(12,false),(13,false),(14,false),(15,false)] (En 178 k2 (B15 P)) k2 (B16 P):=fun _ _ _ _ _ _ _  => by kernel_rfl
def B17 (P:PT):Y k0:=fun x13 H=>
  P (tuple ⟨[(I x13),(bool true)]⟩) H
def o18:=O 1012
def B18 (P:PT):Y k1:=fun x0 x1 x13 H=>
  idxK x0 x1 1 (fun b1 o2=>ldI .u64 H b1 o2 (fun v3=>idxK x0 x13 1 (fun b4 o5=>ldI .u64 H b4 o5 (fun v6=>idxK x0 x13 1 (fun b7 o8=>stK H b7 o8 [(int .u64 v3)] (fun H9=>idxK x0 x1 1 (fun b10 o11=>stK H9 b10 o11 [(int .u64 v6)] (fun H12=>B17 P x13 H12))))))))
theorem q18 (P:PT):QD Tryz.prog T0 178 o18 [(0,false),(1,false),(2,false),(3,false),(4,false),(5,false),(6,false),(7,false),(8,false),(9,false),(10,false),(11,false),(12,false),(13,false),(14,false),(15,false)] (En 178 k0 (B17 P)) k1 (B18 P):=fun _ _ _ _ _  => by kernel_rfl
def B19 (P:PT):Y k2:=fun x0 x1 x4 x12 x13 H=>
  pif (decide ((x12:Int)>x13)) (B18 P x0 x1 x13 H) (B16 P x0 x1 x4 x12 x13 H)
def B21 (P:PT) (N20:Y k2):Y k2:=fun x0 x1 x4 x12 x13 H=>
  N20 x0 x1 x4 x12 (i64.wrap (x13-1)) H
def o22:=O 992
def B22 (P:PT) (N20:Y k2):Y k2:=fun x0 x1 x4 x12 x13 H=>
  pif (decide ((x12:Int)≤x13)) (idxK x0 x13 1 (fun b1 o2=>ldI .u64 H b1 o2 (fun v3=>idxK x0 x1 1 (fun b4 o5=>ldI .u64 H b4 o5 (fun v6=>callV Tryz.prog T0 x4 [(int .u64 v3),(int .u64 v6)] H (fun v7 H8=>asI .i64 v7 (fun v9=>pif (!(decide ((v9:Int)<0))) (B21 P N20 x0 x1 x4 x12 x13 H8) (B19 P x0 x1 x4 x12 x13 H8)))))))) (B19 P x0 x1 x4 x12 x13 H)
theorem q22 (P:PT) (N20:Y k2):QD Tryz.prog T0 178 o22 [(0,false),(1,false),(2,false),(3,false),(4,false),(5,false),(6,false),(7,false),(8,false),(9,false),(10,false),(11,false),(12,false),(13,false),(14,false),(15,false),(16,false)] (cnd 66 (En 178 k2 (B21 P N20)) (En 178 k2 (B19 P))) k2 (B22 P N20):=fun _ _ _ _ _ _ _  => by kernel_rfl
def L20 (P:PT):Y k2:=fun x0 x1 x4 x12 x13 H=>
  ∃ (I:Y k2) (μ:NTy k2 (AHeap→Nat)),I x0 x1 x4 x12 x13 H∧∀ y0 y1 y4 y12 y13 G,I y0 y1 y4 y12 y13 G→B22 P (fun z0 z1 z4 z12 z13 G'=>I z0 z1 z4 z12 z13 G'∧μ z0 z1 z4 z12 z13 G'<μ y0 y1 y4 y12 y13 G) y0 y1 y4 y12 y13 G
theorem l20 P:LQ k2 (L20 P) (B22 P):=fun ⟨_,_,_,_,_,_⟩ _ ⟨I,μ,h0,hI⟩=>⟨apT _ I,apT _ μ,h0,fun ⟨_,_,_,_,_,_⟩ _ h=>hI _ _ _ _ _ _  h⟩
def B24 (P:PT) (N23:Y k2):Y k2:=fun x0 x1 x4 x12 x13 H=>
  N23 x0 x1 x4 (i64.wrap (x12+1)) x13 H
def o25:=O 480
def B25 (P:PT) (N23:Y k2):Y k2:=fun x0 x1 x4 x12 x13 H=>
  pif (decide ((x12:Int)≤x13)) (idxK x0 x12 1 (fun b1 o2=>ldI .u64 H b1 o2 (fun v3=>idxK x0 x1 1 (fun b4 o5=>ldI .u64 H b4 o5 (fun v6=>callV Tryz.prog T0 x4 [(int .u64 v3),(int .u64 v6)] H (fun v7 H8=>asI .i64 v7 (fun v9=>pif (decide ((v9:Int)<0)) (B24 P N23 x0 x1 x4 x12 x13 H8) (L20 P x0 x1 x4 x12 x13 H8)))))))) (L20 P x0 x1 x4 x12 x13 H)
theorem q25 (P:PT) (N23:Y k2):QD Tryz.prog T0 178 o25 [(0,false),(1,false),(2,false),(3,false),(4,false),(5,false),(6,false),(7,false),(8,false),(9,false),(10,false),(11,false),(12,false),(13,false),(14,false),(15,false)] (cnd 47 (En 178 k2 (B24 P N23)) (En 178 k2 (L20 P))) k2 (B25 P N23):=fun _ _ _ _ _ _ _  => by kernel_rfl
def L23 (P:PT):Y k2:=fun x0 x1 x4 x12 x13 H=>
  ∃ (I:Y k2) (μ:NTy k2 (AHeap→Nat)),I x0 x1 x4 x12 x13 H∧∀ y0 y1 y4 y12 y13 G,I y0 y1 y4 y12 y13 G→B25 P (fun z0 z1 z4 z12 z13 G'=>I z0 z1 z4 z12 z13 G'∧μ z0 z1 z4 z12 z13 G'<μ y0 y1 y4 y12 y13 G) y0 y1 y4 y12 y13 G
theorem l23 P:LQ k2 (L23 P) (B25 P):=fun ⟨_,_,_,_,_,_⟩ _ ⟨I,μ,h0,hI⟩=>⟨apT _ I,apT _ μ,h0,fun ⟨_,_,_,_,_,_⟩ _ h=>hI _ _ _ _ _ _  h⟩
abbrev k3:Sk:=[(0,.v),(1,J),(2,J),(4,.v)]
def B26 (P:PT):Y k3:=fun x0 x1 x2 x4 H=>
  L23 P x0 x1 x4 (i64.wrap (x1+1)) (i64.wrap (x2-1)) H
abbrev k4:Sk:=[(0,.v),(1,J),(2,J),(3,J),(4,.v)]
def o27:=O 6
def B27 (P:PT):Y k4:=fun x0 x1 x2 x3 x4 H=>
  idxK x0 x3 1 (fun b1 o2=>ldI .u64 H b1 o2 (fun v3=>idxK x0 x1 1 (fun b4 o5=>ldI .u64 H b4 o5 (fun v6=>idxK x0 x1 1 (fun b7 o8=>stK H b7 o8 [(int .u64 v3)] (fun H9=>idxK x0 x3 1 (fun b10 o11=>stK H9 b10 o11 [(int .u64 v6)] (fun H12=>B26 P x0 x1 x2 x4 H12))))))))
theorem q27 (P:PT):QD Tryz.prog T0 178 o27 [(0,false),(1,false),(2,false),(3,false),(4,false),(5,false),(6,false),(7,false),(8,false),(9,false),(10,false),(11,false),(12,false),(13,false),(14,false),(15,false)] (En 178 k3 (B26 P)) k4 (B27 P):=fun _ _ _ _ _ _ _  => by kernel_rfl
def B28 (P:PT):Y k4:=fun x0 x1 x2 x3 x4 H=>
  B27 P x0 x1 x2 x3 x4 H
def code:Code:=(.seq (R 0 2) (.seq (.region 1 ⟨o27⟩ true) (.seq (R 2 14) (.seq (.block 0 (.loop (.seq (.seq (.region 3 ⟨o25⟩ true) (.cond (.tmp 47) .skip (.exit 0))) (.block 1 (R 4 482))))) (.seq (.block 2 (.loop (.seq (.seq (.region 5 ⟨o22⟩ true) (.cond (.tmp 66) .skip (.exit 2))) (.block 3 (R 6 994))))) (.seq (.seq (R 7 252) (.cond (.tmp 71) (.seq (.region 8 ⟨o18⟩ true) (.seq (R 9 2026) .ret)) .skip)) (.seq (.region 10 ⟨o16⟩ true) (.seq (R 11 510) (.seq (R 12 1022) (.seq (.block 4 (.loop (.block 5 (.seq (.block 6 (.loop (.seq (.seq (.region 13 ⟨o13⟩ true) (.cond (.tmp 120) .skip (.exit 6))) (.block 7 (R 14 523778))))) (.seq (.block 8 (.loop (.seq (.seq (.region 15 ⟨o10⟩ true) (.cond (.tmp 139) .skip (.exit 8))) (.block 9 (R 16 1047586))))) (.seq (.seq (R 17 261900) (.cond (.tmp 144) (.exit 4) .skip)) (.seq (.region 18 ⟨o6⟩ true) (.seq (R 19 523806) (R 20 523807))))))))) (.seq (.region 21 ⟨o2⟩ true) (.seq (R 22 8190) .ret))))))))))))
theorem body:Tryz.f178.body=some code:=by kernel_rfl
theorem main P:Z 178 k4 (B28 P) code (ret P):=
  (r_seq (b (E k4 (B27 P))) (r_seq (rD T0_ok mixed [(0,false),(1,false),(2,false),(3,false),(4,false),(5,false),(6,false),(7,false),(8,false),(9,false),(10,false),(11,false),(12,false),(13,false),(14,false),(15,false)] (by kernel_rfl) (q27 P)) (r_seq (b (E k2 (L23 P))) (r_seq (r_block (rL (l23 P) (fun N23=>(r_seq (r_seq (rD T0_ok mixed [(0,false),(1,false),(2,false),(3,false),(4,false),(5,false),(6,false),(7,false),(8,false),(9,false),(10,false),(11,false),(12,false),(13,false),(14,false),(15,false)] (by kernel_rfl) (q25 P N23)) (r_cond rfl r_skip (r_exit (fun _ _ h=>h)))) (r_block (b (E k2 N23))))))) (r_seq (r_block (rL (l20 P) (fun N20=>(r_seq (r_seq (rD T0_ok mixed [(0,false),(1,false),(2,false),(3,false),(4,false),(5,false),(6,false),(7,false),(8,false),(9,false),(10,false),(11,false),(12,false),(13,false),(14,false),(15,false),(16,false)] (by kernel_rfl) (q22 P N20)) (r_cond rfl r_skip (r_exit (fun _ _ h=>h)))) (r_block (b (E k2 N20))))))) (r_seq (r_seq (b (cnd 71 (E k1 (B18 P)) (E k2 (B16 P)))) (r_cond rfl (r_seq (rD T0_ok mixed [(0,false),(1,false),(2,false),(3,false),(4,false),(5,false),(6,false),(7,false),(8,false),(9,false),(10,false),(11,false),(12,false),(13,false),(14,false),(15,false)] (by kernel_rfl) (q18 P)) (r_seq (b (ret P)) r_ret)) r_skip)) (r_seq (rD T0_ok mixed [(0,false),(1,false),(2,false),(3,false),(4,false),(5,false),(6,false),(7,false),(8,false),(9,false),(10,false),(11,false),(12,false),(13,false),(14,false),(15,false)] (by kernel_rfl) (q16 P)) (r_seq (b (E k2 (B14 P))) (r_seq (b (E k2 (L3 P))) (r_seq (r_block (rL (l3 P) (fun N3=>(r_block (r_seq (r_block (rL (l11 P N3) (fun N11=>(r_seq (r_seq (rD T0_ok mixed [(0,false),(1,false),(2,false),(3,false),(4,false),(5,false),(6,false),(7,false),(8,false),(9,false),(10,false),(11,false),(12,false),(13,false),(14,false),(15,false)] (by kernel_rfl) (q13 P N3 N11)) (r_cond rfl r_skip (r_exit (fun _ _ h=>h)))) (r_block (b (E k2 N11))))))) (r_seq (r_block (rL (l8 P N3) (fun N8=>(r_seq (r_seq (rD T0_ok mixed [(0,false),(1,false),(2,false),(3,false),(4,false),(5,false),(6,false),(7,false),(8,false),(9,false),(10,false),(11,false),(12,false),(13,false),(14,false),(15,false),(16,false)] (by kernel_rfl) (q10 P N3 N8)) (r_cond rfl r_skip (r_exit (fun _ _ h=>h)))) (r_block (b (E k2 N8))))))) (r_seq (r_seq (b (cnd 144 (E k1 (B2 P)) (E k2 (B6 P N3)))) (r_cond rfl (r_exit (fun _ _ h=>h)) r_skip)) (r_seq (rD T0_ok mixed [(0,false),(1,false),(2,false),(3,false),(4,false),(5,false),(6,false),(7,false),(8,false),(9,false),(10,false),(11,false),(12,false),(13,false),(14,false),(15,false)] (by kernel_rfl) (q6 P N3)) (r_seq (b (E k2 (B4 P N3))) (b (E k2 N3))))))))))) (r_seq (rD T0_ok mixed [(0,false),(1,false),(2,false),(3,false),(4,false),(5,false),(6,false),(7,false),(8,false),(9,false),(10,false),(11,false),(12,false),(13,false),(14,false),(15,false)] (by kernel_rfl) (q2 P)) (r_seq (b (ret P)) r_ret))))))))))))
theorem ac (P:PT) (x0:Value) (x1 x2 x3:Int) (x4:Value) (H:AHeap) (h:B28 P x0 x1 x2 x3 x4 H):A 178 [x0,(I x1),(I x2),(I x3),x4] H P:=
  r_fn T0_ok (c:=code) (n:=178) Tryz.func178 body (by kernel_rfl) (main P) (En_mk (x0,x1,x2,x3,x4,()) (by kernel_rfl) ⟨by kernel_rfl,by kernel_rfl,by kernel_rfl,by kernel_rfl,by kernel_rfl,trivial⟩ h)

end F178
namespace F180
abbrev E:=En 25
def O (k:Nat):=ob Tryz.f180 (pth k)
abbrev R (i k:Nat):Code:=.region i ⟨O k⟩ false
def ret (P:PT):EP:=retE T0 25 Tryz.f180 P
abbrev k0:Sk:=[(0,.i .u64),(2,J)]
def B1 (P:PT):Y k0:=fun x0 x2 H=>
  bndK (u8.wrap x0) (ByteArray.size (ByteArray.mk (List.toArray (List.append (List.append [0,1,2,2,3,3,3,3,4,4,4,4,4,4,4,4,5,5,5,5,5,5,5,5,5,5,5,5,5,5,5,5,6,6,6,6,6,6,6,6,6,6,6,6,6,6,6,6,6,6,6,6,6,6,6,6,6,6,6,6,6,6,6,6] [7,7,7,7,7,7,7,7,7,7,7,7,7,7,7,7,7,7,7,7,7,7,7,7,7,7,7,7,7,7,7,7,7,7,7,7,7,7,7,7,7,7,7,7,7,7,7,7,7,7,7,7,7,7,7,7,7,7,7,7,7,7,7,7]) (List.append [8,8,8,8,8,8,8,8,8,8,8,8,8,8,8,8,8,8,8,8,8,8,8,8,8,8,8,8,8,8,8,8,8,8,8,8,8,8,8,8,8,8,8,8,8,8,8,8,8,8,8,8,8,8,8,8,8,8,8,8,8,8,8,8] [8,8,8,8,8,8,8,8,8,8,8,8,8,8,8,8,8,8,8,8,8,8,8,8,8,8,8,8,8,8,8,8,8,8,8,8,8,8,8,8,8,8,8,8,8,8,8,8,8,8,8,8,8,8,8,8,8,8,8,8,8,8,8,8]))))) (P (I (i64.wrap (x2+(i64.wrap (((ByteArray.mk (List.toArray (List.append (List.append [0,1,2,2,3,3,3,3,4,4,4,4,4,4,4,4,5,5,5,5,5,5,5,5,5,5,5,5,5,5,5,5,6,6,6,6,6,6,6,6,6,6,6,6,6,6,6,6,6,6,6,6,6,6,6,6,6,6,6,6,6,6,6,6] [7,7,7,7,7,7,7,7,7,7,7,7,7,7,7,7,7,7,7,7,7,7,7,7,7,7,7,7,7,7,7,7,7,7,7,7,7,7,7,7,7,7,7,7,7,7,7,7,7,7,7,7,7,7,7,7,7,7,7,7,7,7,7,7]) (List.append [8,8,8,8,8,8,8,8,8,8,8,8,8,8,8,8,8,8,8,8,8,8,8,8,8,8,8,8,8,8,8,8,8,8,8,8,8,8,8,8,8,8,8,8,8,8,8,8,8,8,8,8,8,8,8,8,8,8,8,8,8,8,8,8] [8,8,8,8,8,8,8,8,8,8,8,8,8,8,8,8,8,8,8,8,8,8,8,8,8,8,8,8,8,8,8,8,8,8,8,8,8,8,8,8,8,8,8,8,8,8,8,8,8,8,8,8,8,8,8,8,8,8,8,8,8,8,8,8])))).data.toList.getD (Int.toNat (u8.wrap x0)) 0).toNat:Int))))) H)
def B2 (P:PT):Y k0:=fun x0 x2 H=>
  B1 P x0 (i64.wrap (x2+8)) H
def B3 (P:PT):Y k0:=fun x0 x2 H=>
  ((0:Int)≤8)∧(B2 P (Int.fdiv x0 (2^(min (Int.toNat 8) 64))) x2 H)
def B4 (P:PT):Y k0:=fun x0 x2 H=>
  pif (decide ((x0:Int)≥256)) (B3 P x0 x2 H) (B1 P x0 x2 H)
def B5 (P:PT):Y k0:=fun x0 x2 H=>
  B4 P x0 (i64.wrap (x2+16)) H
def B6 (P:PT):Y k0:=fun x0 x2 H=>
  ((0:Int)≤16)∧(B5 P (Int.fdiv x0 (2^(min (Int.toNat 16) 64))) x2 H)
def B7 (P:PT):Y k0:=fun x0 x2 H=>
  pif (decide ((x0:Int)≥65536)) (B6 P x0 x2 H) (B4 P x0 x2 H)
abbrev k1:Sk:=[(0,.i .u64)]
def B8 (P:PT):Y k1:=fun x0 H=>
  B7 P x0 32 H
def B9 (P:PT):Y k1:=fun x0 H=>
  ((0:Int)≤32)∧(B8 P (Int.fdiv x0 (2^(min (Int.toNat 32) 64))) H)
def B10 (P:PT):Y k0:=fun x0 x2 H=>
  pif (decide ((x0:Int)≥4294967296)) (B9 P x0 H) (B7 P x0 x2 H)
def B11 (P:PT):Y k1:=fun x0 H=>
  B10 P x0 0 H
def code:Code:=(.seq (R 0 2) (.seq (.seq (R 1 12) (.cond (.tmp 4) (.seq (R 2 52) (R 3 53)) .skip)) (.seq (.seq (R 4 28) (.cond (.tmp 8) (.seq (R 5 116) (R 6 117)) .skip)) (.seq (.seq (R 7 60) (.cond (.tmp 14) (.seq (R 8 244) (R 9 245)) .skip)) (.seq (R 10 62) .ret)))))
theorem body:Tryz.f180.body=some code:=by kernel_rfl
theorem main P:Z 25 k1 (B11 P) code (ret P):=
  (r_seq (b (E k0 (B10 P))) (r_seq (r_seq (b (cnd 4 (E k1 (B9 P)) (E k0 (B7 P)))) (r_cond rfl (r_seq (b (E k1 (B8 P))) (b (E k0 (B7 P)))) r_skip)) (r_seq (r_seq (b (cnd 8 (E k0 (B6 P)) (E k0 (B4 P)))) (r_cond rfl (r_seq (b (E k0 (B5 P))) (b (E k0 (B4 P)))) r_skip)) (r_seq (r_seq (b (cnd 14 (E k0 (B3 P)) (E k0 (B1 P)))) (r_cond rfl (r_seq (b (E k0 (B2 P))) (b (E k0 (B1 P)))) r_skip)) (r_seq (b (ret P)) r_ret)))))
theorem ac (P:PT) (x0:Int) (H:AHeap) (h:B11 P x0 H):A 180 [(int .u64 x0)] H P:=
  r_fn T0_ok (c:=code) (n:=25) Tryz.func180 body (by kernel_rfl) (main P) (En_mk (x0,()) (by kernel_rfl) ⟨by kernel_rfl,trivial⟩ h)

end F180
namespace F181
abbrev E:=En 6
def O (k:Nat):=ob Tryz.f181 (pth k)
abbrev R (i k:Nat):Code:=.region i ⟨O k⟩ false
def ret (P:PT):EP:=retE T0 6 Tryz.f181 P
abbrev k0:Sk:=[(0,J)]
def B1 (P:PT):Y k0:=fun x0 H=>
  P (bool ((x0:Int) != x0)) H
def B2 (P:PT):Y k0:=fun x0 H=>
  B1 P x0 H
def code:Code:=(.seq (R 0 2) (.seq (R 1 6) .ret))
theorem body:Tryz.f181.body=some code:=by kernel_rfl
theorem main P:Z 6 k0 (B2 P) code (ret P):=
  (r_seq (b (E k0 (B1 P))) (r_seq (b (ret P)) r_ret))
theorem ac (P:PT) (x0:Int) (H:AHeap) (h:B2 P x0 H):A 181 [(I x0)] H P:=
  r_fn T0_ok (c:=code) (n:=6) Tryz.func181 body (by kernel_rfl) (main P) (En_mk (x0,()) (by kernel_rfl) ⟨by kernel_rfl,trivial⟩ h)

end F181
namespace F182
abbrev E:=En 30
def O (k:Nat):=ob Tryz.f182 (pth k)
abbrev R (i k:Nat):Code:=.region i ⟨O k⟩ false
def ret (P:PT):EP:=retE T0 30 Tryz.f182 P
abbrev k0:Sk:=[(8,.i .u64),(9,.i .u64)]
def B1 (P:PT):Y k0:=fun x8 x9 H=>
  P (tuple ⟨[(int .u64 x8),(int .u64 x9)]⟩) H
abbrev k1:Sk:=[(0,.i .u64),(1,.i .u64)]
def B2 (P:PT):Y k1:=fun x0 x1 H=>
  A 204 [(int .u64 x0),(int .u64 x1)] H (fun v1 H2=>tup2 v1 (fun v3 v4=>asI .u64 v3 (fun v5=>asI .u64 v4 (fun v6=>B1 P v5 v6 H2))))
def B3 (P:PT):Y k1:=fun x0 x1 H=>
  B2 P x0 x1 H
def code:Code:=(.seq (R 0 2) (.seq (.cond (.const (.bool false)) (codeAt (bodyOf Tryz.f182) [.r,.l,.l]) .skip) (.seq (R 3 14) (.seq (R 4 30) .ret))))
theorem body:Tryz.f182.body=some code:=by kernel_rfl
theorem main P:Z 30 k1 (B3 P) code (ret P):=
  (r_seq (b (E k1 (B2 P))) (r_seq (r_condF r_skip) (r_seq (b (E k0 (B1 P))) (r_seq (b (ret P)) r_ret))))
theorem ac (P:PT) (x0 x1:Int) (H:AHeap) (h:B3 P x0 x1 H):A 182 [(int .u64 x0),(int .u64 x1)] H P:=
  r_fn T0_ok (c:=code) (n:=30) Tryz.func182 body (by kernel_rfl) (main P) (En_mk (x0,x1,()) (by kernel_rfl) ⟨by kernel_rfl,by kernel_rfl,trivial⟩ h)

end F182
namespace F187
abbrev E:=En 9
def O (k:Nat):=ob Tryz.f187 (pth k)
abbrev R (i k:Nat):Code:=.region i ⟨O k⟩ false
def ret (P:PT):EP:=retE T0 9 Tryz.f187 P
abbrev k0:Sk:=[(0,.v),(1,.v)]
def B1 (P:PT):Y k0:=fun x0 x1 H=>
  A 207 [x0,x1] H (fun v1 H2=>asI .i64 v1 (fun v3=>P (bool (decide ((v3:Int)≥0))) H2))
def B2 (P:PT):Y k0:=fun x0 x1 H=>
  B1 P x0 x1 H
def code:Code:=(.seq (R 0 2) (.seq (R 1 6) .ret))
theorem body:Tryz.f187.body=some code:=by kernel_rfl
theorem main P:Z 9 k0 (B2 P) code (ret P):=
  (r_seq (b (E k0 (B1 P))) (r_seq (b (ret P)) r_ret))
theorem ac (P:PT) (x0 x1:Value) (H:AHeap) (h:B2 P x0 x1 H):A 187 [x0,x1] H P:=
  r_fn T0_ok (c:=code) (n:=9) Tryz.func187 body (by kernel_rfl) (main P) (En_mk (x0,x1,()) (by kernel_rfl) ⟨by kernel_rfl,by kernel_rfl,trivial⟩ h)

end F187
namespace F188
abbrev E:=En 8
def O (k:Nat):=ob Tryz.f188 (pth k)
abbrev R (i k:Nat):Code:=.region i ⟨O k⟩ false
def ret (P:PT):EP:=retE T0 8 Tryz.f188 P
abbrev k0:Sk:=[(0,J),(1,.v)]
def B1 (P:PT):Y k0:=fun x0 x1 H=>
  asP x1 (fun b1 o2=>ld1 H b1 o2 (fun v3=>callV Tryz.prog T0 v3 [(I x0)] H (fun v4 H5=>asB v4 (fun v6=>P (bool (!v6)) H5))))
def o2:=O 2
def B2 (P:PT):Y k0:=fun x0 x1 H=>
  B1 P x0 x1 H
def code:Code:=(.seq (R 0 2) (.seq (R 1 6) .ret))
theorem body:Tryz.f188.body=some code:=by kernel_rfl
theorem main P:Z 8 k0 (B2 P) code (ret P):=
  (r_seq (b (E k0 (B1 P))) (r_seq (b (ret P)) r_ret))
theorem ac (P:PT) (x0:Int) (x1:Value) (H:AHeap) (h:B2 P x0 x1 H):A 188 [(I x0),x1] H P:=
  r_fn T0_ok (c:=code) (n:=8) Tryz.func188 body (by kernel_rfl) (main P) (En_mk (x0,x1,()) (by kernel_rfl) ⟨by kernel_rfl,by kernel_rfl,trivial⟩ h)

end F188
namespace F192
abbrev E:=En 69
def O (k:Nat):=ob Tryz.f192 (pth k)
abbrev R (i k:Nat):Code:=.region i ⟨O k⟩ false
def ret (P:PT):EP:=retE T0 69 Tryz.f192 P
abbrev k0:Sk:=[(3,.v)]
def B1 (P:PT):Y k0:=fun x3 H=>
  P x3 H
abbrev k1:Sk:=[(0,.v),(3,.v),(4,J)]
def B3 (P:PT) (N2:Y k1):Y k1:=fun x0 x3 x4 H=>
  N2 x0 x3 (i64.wrap (x4+1)) H
abbrev k2:Sk:=[(0,.v),(3,.v),(4,J),(5,.x),(6,J)]
def o4:=O 7463
def B4 (P:PT) (N2:Y k1):Y k2:=fun x0 x3 x4 x5 x6 H=>
  li H x5 0 (fun v1=>li H x5 1 (fun v2=>idxK x3 x6 2 (fun b3 o4=>stK H b3 o4 [(I v1),(I v2)] (fun H5=>B3 P N2 x0 x3 x4 H5))))
def o6:=O 238789
def B6 (P:PT) (N2:Y k1) (N5:Y k2):Y k2:=fun x0 x3 x4 x5 x6 H=>
  N5 x0 x3 x4 x5 (i64.wrap (x6-1)) H
def B7 (P:PT) (N2:Y k1) (N5:Y k2):Y k2:=fun x0 x3 x4 x5 x6 H=>
  idxK x3 (i64.wrap (x6-1)) 2 (fun b1 o2=>li H b1 o2 (fun v3=>li H b1 (o2+1) (fun v4=>idxK x3 x6 2 (fun b5 o6=>stK H b5 o6 [(I v3),(I v4)] (fun H7=>B6 P N2 N5 x0 x3 x4 x5 x6 H7)))))
def o8:=O 119392
def B8 (P:PT) (N2:Y k1) (N5:Y k2):Y k2:=fun x0 x3 x4 x5 x6 H=>
  pif (decide ((x6:Int)>0)) (li H x5 0 (fun v1=>li H x5 1 (fun v2=>idxK x3 (i64.wrap (x6-1)) 2 (fun b3 o4=>li H b3 o4 (fun v5=>li H b3 (o4+1) (fun v6=>A 129 [(agg ⟨[(I v1),(I v2)]⟩),(agg ⟨[(I v5),(I v6)]⟩)] H (fun v7 H8=>asB v7 (fun v9=>pif v9 (B7 P N2 N5 x0 x3 x4 x5 x6 H8) (B4 P N2 x0 x3 x4 x5 x6 H8))))))))) (B4 P N2 x0 x3 x4 x5 x6 H)
theorem q8 (P:PT) (N2:Y k1) (N5:Y k2):QD Tryz.prog T0 69 o8 [(0,false),(1,false),(2,false),(3,false),(4,false),(5,false),(6,false),(7,false),(8,false),(9,false),(10,false)] (cnd 53 (En 69 k2 (B7 P N2 N5)) (En 69 k2 (B4 P N2))) k2 (B8 P N2 N5):=fun _ _ _ _ _ _ _  => by kernel_rfl
def L5 (P:PT) (N2:Y k1):Y k2:=fun x0 x3 x4 x5 x6 H=>
  ∃ (I:Y k2) (μ:NTy k2 (AHeap→Nat)),I x0 x3 x4 x5 x6 H∧∀ y0 y3 y4 y5 y6 G,I y0 y3 y4 y5 y6 G→B8 P N2 (fun z0 z3 z4 z5 z6 G'=>I z0 z3 z4 z5 z6 G'∧μ z0 z3 z4 z5 z6 G'<μ y0 y3 y4 y5 y6 G) y0 y3 y4 y5 y6 G
theorem l5 P N2:LQ k2 (L5 P N2) (B8 P N2):=fun ⟨_,_,_,_,_,_⟩ _ ⟨I,μ,h0,hI⟩=>⟨apT _ I,apT _ μ,h0,fun ⟨_,_,_,_,_,_⟩ _ h=>hI _ _ _ _ _ _  h⟩
def B9 (P:PT) (N2:Y k1):Y k2:=fun x0 x3 x4 x5 x6 H=>
  li H x5 0 (fun v1=>li H x5 1 (fun v2=>newK H [(I v1),(I v2)] 66 (fun b3 H4=>apK T0 66 H4 x3 (slice (some ⟨b3,0,none⟩) 1 (1+1)) (fun v5 H6=>L5 P N2 x0 v5 x4 x5 x6 H6))))
def o10:=O 1864
def B10 (P:PT) (N2:Y k1):Y k1:=fun x0 x3 x4 H=>
  idxK x0 x4 2 (fun b1 o2=>li H b1 o2 (fun v3=>idxK x0 x4 2 (fun b4 o5=>li H b4 (o5+1) (fun v6=>idxK x0 x4 2 (fun b7 o8=>li H b7 o8 (fun v9=>idxK x0 x4 2 (fun b10 o11=>li H b10 (o11+1) (fun v12=>lenK x3 (fun n13=>newK H [(I 0),(I 0)] 66 (fun b14 H15=>stK H15 b14 0 [(I (if v6<v3 then v6 else v3)),(I (if v12>v9 then v12 else v9))] (fun H16=>B9 P N2 x0 x3 x4 b14 (n13:Int) H16)))))))))))
theorem q10 (P:PT) (N2:Y k1):QD Tryz.prog T0 69 o10 [(0,false),(1,false),(2,false),(3,false),(4,false),(5,false),(6,false),(7,false),(8,false),(9,false),(10,false),(11,false),(12,false),(13,false),(14,false),(15,false),(16,false),(17,false),(18,false),(19,false),(20,false),(21,false),(22,false),(23,false),(24,false),(25,false),(26,false),(27,false)] (En 69 k2 (B9 P N2)) k1 (B10 P N2):=fun _ _ _ _ _  => by kernel_rfl
def o11:=O 464
def B11 (P:PT) (N2:Y k1):Y k1:=fun x0 x3 x4 H=>
  lenK x0 (fun n1=>pif (decide ((x4:Int)<(n1:Int))) (B10 P N2 x0 x3 x4 H) (B1 P x3 H))
def L2 (P:PT):Y k1:=fun x0 x3 x4 H=>
  ∃ (I:Y k1) (μ:NTy k1 (AHeap→Nat)),I x0 x3 x4 H∧∀ y0 y3 y4 G,I y0 y3 y4 G→B11 P (fun z0 z3 z4 G'=>I z0 z3 z4 G'∧μ z0 z3 z4 G'<μ y0 y3 y4 G) y0 y3 y4 G
theorem l2 P:LQ k1 (L2 P) (B11 P):=fun ⟨_,_,_,_⟩ _ ⟨I,μ,h0,hI⟩=>⟨apT _ I,apT _ μ,h0,fun ⟨_,_,_,_⟩ _ h=>hI _ _ _ _  h⟩
abbrev k3:Sk:=[(0,.v),(3,.v)]
def B12 (P:PT):Y k3:=fun x0 x3 H=>
  L2 P x0 x3 0 H
abbrev k4:Sk:=[(0,.v)]
def B13 (P:PT):Y k4:=fun x0 H=>
  newK H [] 66 (fun b1 H2=>B12 P x0 (slice (some ⟨b1,0,none⟩) 0 (0+1)) H2)
def B14 (P:PT):Y k4:=fun x0 H=>
  B13 P x0 H
def code:Code:=(.seq (R 0 2) (.seq (R 1 6) (.seq (.seq (R 2 28) (.block 0 (.loop (.seq (.seq (R 3 464) (.cond (.tmp 11) .skip (.exit 0))) (.seq (.block 1 (.seq (.region 5 ⟨o10⟩ true) (.seq (R 6 3730) (.seq (.block 2 (.loop (.seq (.seq (.region 7 ⟨o8⟩ true) (.cond (.tmp 53) .skip (.exit 2))) (.block 3 (.seq (R 8 238788) (R 9 238789)))))) (R 10 7463))))) (R 4 467)))))) (.seq (R 11 30) .ret))))
theorem body:Tryz.f192.body=some code:=by kernel_rfl
theorem main P:Z 69 k4 (B14 P) code (ret P):=
  (r_seq (b (E k4 (B13 P))) (r_seq (b (E k3 (B12 P))) (r_seq (r_seq (b (E k1 (L2 P))) (r_block (rL (l2 P) (fun N2=>(r_seq (r_seq (b (cnd 11 (E k1 (B10 P N2)) (E k0 (B1 P)))) (r_cond rfl r_skip (r_exit (fun _ _ h=>h)))) (r_seq (r_block (r_seq (rD T0_ok mixed [(0,false),(1,false),(2,false),(3,false),(4,false),(5,false),(6,false),(7,false),(8,false),(9,false),(10,false),(11,false),(12,false),(13,false),(14,false),(15,false),(16,false),(17,false),(18,false),(19,false),(20,false),(21,false),(22,false),(23,false),(24,false),(25,false),(26,false),(27,false)] (by kernel_rfl) (q10 P N2)) (r_seq (b (E k2 (L5 P N2))) (r_seq (r_block (rL (l5 P N2) (fun N5=>(r_seq (r_seq (rD T0_ok mixed [(0,false),(1,false),(2,false),(3,false),(4,false),(5,false),(6,false),(7,false),(8,false),(9,false),(10,false)] (by kernel_rfl) (q8 P N2 N5)) (r_cond rfl r_skip (r_exit (fun _ _ h=>h)))) (r_block (r_seq (b (E k2 (B6 P N2 N5))) (b (E k2 N5)))))))) (b (E k1 (B3 P N2))))))) (b (E k1 N2)))))))) (r_seq (b (ret P)) r_ret))))
theorem ac (P:PT) (x0:Value) (H:AHeap) (h:B14 P x0 H):A 192 [x0] H P:=
  r_fn T0_ok (c:=code) (n:=69) Tryz.func192 body (by kernel_rfl) (main P) (En_mk (x0,()) (by kernel_rfl) ⟨by kernel_rfl,trivial⟩ h)

end F192
namespace F193
abbrev E:=En 10
def O (k:Nat):=ob Tryz.f193 (pth k)
abbrev R (i k:Nat):Code:=.region i ⟨O k⟩ false
def ret (P:PT):EP:=retE T0 10 Tryz.f193 P
abbrev k0:Sk:=[(0,J)]
def B1 (P:PT):Y k0:=fun x0 H=>
  A 91 [(I x0),(I 2),(I 20)] H (fun v1 H2=>asB v1 (fun v3=>pif v3 (P (bool ((Int.tmod x0 2:Int)==0)) H2) (P (bool false) H2)))
def B2 (P:PT):Y k0:=fun x0 H=>
  B1 P x0 H
def code:Code:=(.seq (R 0 2) (.seq (R 1 6) .ret))
theorem body:Tryz.f193.body=some code:=by kernel_rfl
theorem main P:Z 10 k0 (B2 P) code (ret P):=
  (r_seq (b (E k0 (B1 P))) (r_seq (b (ret P)) r_ret))
theorem ac (P:PT) (x0:Int) (H:AHeap) (h:B2 P x0 H):A 193 [(I x0)] H P:=
  r_fn T0_ok (c:=code) (n:=10) Tryz.func193 body (by kernel_rfl) (main P) (En_mk (x0,()) (by kernel_rfl) ⟨by kernel_rfl,trivial⟩ h)

end F193
namespace F194
abbrev E:=En 23
def O (k:Nat):=ob Tryz.f194 (pth k)
abbrev R (i k:Nat):Code:=.region i ⟨O k⟩ false
def ret (P:PT):EP:=retE T0 23 Tryz.f194 P
abbrev k0:Sk:=[(1,.v),(2,.x)]
def B1 (P:PT):Y k0:=fun x1 x2 H=>
  li H x2 0 (fun v1=>asP x1 (fun b2 o3=>li H b2 o3 (fun v4=>A 91 [(I v1),(I 0),(I (i64.wrap (v4-1)))] H (fun v5 H6=>asB v5 (fun v7=>pif v7 (li H6 x2 1 (fun v8=>asP x1 (fun b9 o10=>li H6 b9 o10 (fun v11=>A 91 [(I v8),(I 0),(I (i64.wrap (v11-1)))] H6 (fun v12 H13=>asB v12 (fun v14=>pif v14 (li H13 x2 0 (fun v15=>li H13 x2 1 (fun v16=>P (bool ((v15:Int) != v16)) H13))) (P (bool false) H13))))))) (P (bool false) H6))))))
abbrev k1:Sk:=[(0,.g [.i,.i]),(1,.v)]
def B2 (P:PT):Y k1:=fun x0a x0b x1 H=>
  newK H [(I x0a),(I x0b)] 66 (fun b1 H2=>B1 P x1 b1 H2)
def code:Code:=(.seq (R 0 2) (.seq (R 1 6) .ret))
theorem body:Tryz.f194.body=some code:=by kernel_rfl
theorem main P:Z 23 k1 (B2 P) code (ret P):=
  (r_seq (b (E k0 (B1 P))) (r_seq (b (ret P)) r_ret))
theorem ac (P:PT) (x0a x0b:Int) (x1:Value) (H:AHeap) (h:B2 P x0a x0b x1 H):A 194 [(agg ⟨[(I x0a),(I x0b)]⟩),x1] H P:=
  r_fn T0_ok (c:=code) (n:=23) Tryz.func194 body (by kernel_rfl) (main P) (En_mk (x0a,x0b,x1,()) (by kernel_rfl) ⟨by kernel_rfl,by kernel_rfl,trivial⟩ h)

end F194
namespace F195
abbrev E:=En 9
def O (k:Nat):=ob Tryz.f195 (pth k)
abbrev R (i k:Nat):Code:=.region i ⟨O k⟩ false
def ret (P:PT):EP:=retE T0 9 Tryz.f195 P
abbrev k0:Sk:=[(0,.v),(1,.v)]
def B1 (P:PT):Y k0:=fun x0 x1 H=>
  A 208 [x0,x1] H (fun v1 H2=>asI .i64 v1 (fun v3=>P (bool (decide ((v3:Int)≥0))) H2))
def B2 (P:PT):Y k0:=fun x0 x1 H=>
  B1 P x0 x1 H
def code:Code:=(.seq (R 0 2) (.seq (R 1 6) .ret))
theorem body:Tryz.f195.body=some code:=by kernel_rfl
theorem main P:Z 9 k0 (B2 P) code (ret P):=
  (r_seq (b (E k0 (B1 P))) (r_seq (b (ret P)) r_ret))
theorem ac (P:PT) (x0 x1:Value) (H:AHeap) (h:B2 P x0 x1 H):A 195 [x0,x1] H P:=
  r_fn T0_ok (c:=code) (n:=9) Tryz.func195 body (by kernel_rfl) (main P) (En_mk (x0,x1,()) (by kernel_rfl) ⟨by kernel_rfl,by kernel_rfl,trivial⟩ h)

end F195
namespace F196
abbrev E:=En 8
def O (k:Nat):=ob Tryz.f196 (pth k)
abbrev R (i k:Nat):Code:=.region i ⟨O k⟩ false
def ret (P:PT):EP:=retE T0 8 Tryz.f196 P
abbrev k0:Sk:=[(1,.v),(2,.x)]
def B1 (P:PT):Y k0:=fun x1 x2 H=>
  asP x1 (fun b1 o2=>ld1 H b1 o2 (fun v3=>li H x2 0 (fun v4=>li H x2 1 (fun v5=>callV Tryz.prog T0 v3 [(agg ⟨[(I v4),(I v5)]⟩)] H (fun v6 H7=>asB v6 (fun v8=>P (bool (!v8)) H7))))))
abbrev k1:Sk:=[(0,.g [.i,.i]),(1,.v)]
def o2:=O 2
def B2 (P:PT):Y k1:=fun x0a x0b x1 H=>
  newK H [(I x0a),(I x0b)] 66 (fun b1 H2=>B1 P x1 b1 H2)
def code:Code:=(.seq (R 0 2) (.seq (R 1 6) .ret))
theorem body:Tryz.f196.body=some code:=by kernel_rfl
theorem main P:Z 8 k1 (B2 P) code (ret P):=
  (r_seq (b (E k0 (B1 P))) (r_seq (b (ret P)) r_ret))
theorem ac (P:PT) (x0a x0b:Int) (x1:Value) (H:AHeap) (h:B2 P x0a x0b x1 H):A 196 [(agg ⟨[(I x0a),(I x0b)]⟩),x1] H P:=
  r_fn T0_ok (c:=code) (n:=8) Tryz.func196 body (by kernel_rfl) (main P) (En_mk (x0a,x0b,x1,()) (by kernel_rfl) ⟨by kernel_rfl,by kernel_rfl,trivial⟩ h)

end F196
namespace F197
abbrev E:=En 5
def O (k:Nat):=ob Tryz.f197 (pth k)
abbrev R (i k:Nat):Code:=.region i ⟨O k⟩ false
def ret (P:PT):EP:=retE T0 5 Tryz.f197 P
abbrev k0:Sk:=[(0,J)]
def B1 (P:PT):Y k0:=fun x0 H=>
  P (bool ((x0:Int)==3)) H
def B2 (P:PT):Y k0:=fun x0 H=>
  B1 P x0 H
def code:Code:=(.seq (R 0 2) (.seq (R 1 6) .ret))
theorem body:Tryz.f197.body=some code:=by kernel_rfl
theorem main P:Z 5 k0 (B2 P) code (ret P):=
  (r_seq (b (E k0 (B1 P))) (r_seq (b (ret P)) r_ret))
theorem ac (P:PT) (x0:Int) (H:AHeap) (h:B2 P x0 H):A 197 [(I x0)] H P:=
  r_fn T0_ok (c:=code) (n:=5) Tryz.func197 body (by kernel_rfl) (main P) (En_mk (x0,()) (by kernel_rfl) ⟨by kernel_rfl,trivial⟩ h)

end F197
namespace F198
abbrev E:=En 82
def O (k:Nat):=ob Tryz.f198 (pth k)
abbrev R (i k:Nat):Code:=.region i ⟨O k⟩ false
def ret (P:PT):EP:=retE T0 82 Tryz.f198 P
abbrev k0:Sk:=[(0,.v),(2,J),(3,J),(4,.v),(10,J)]
abbrev k1:Sk:=[(0,.v),(2,J),(3,J),(4,.v),(11,J)]
def o2:=O 799
def B2 (P:PT) (N1:Y k0):Y k1:=fun x0 x2 x3 x4 x11 H=>
  N1 x0 x2 x3 x4 x11 H
abbrev k2:Sk:=[(0,.v),(2,J),(3,J),(4,.v),(10,J),(11,J)]
def o3:=O 798
def B3 (P:PT) (N1:Y k0):Y k2:=fun x0 x2 x3 x4 x10 x11 H=>
  idxK x0 (i64.wrap (x3+x11)) 1 (fun b1 o2=>ldI .u64 H b1 o2 (fun v3=>idxK x0 (i64.wrap (x3+x10)) 1 (fun b4 o5=>ldI .u64 H b4 o5 (fun v6=>idxK x0 (i64.wrap (x3+x10)) 1 (fun b7 o8=>stK H b7 o8 [(int .u64 v3)] (fun H9=>idxK x0 (i64.wrap (x3+x11)) 1 (fun b10 o11=>stK H9 b10 o11 [(int .u64 v6)] (fun H12=>B2 P N1 x0 x2 x3 x4 x11 H12))))))))
theorem q3 (P:PT) (N1:Y k0):QD Tryz.prog T0 82 o3 [(0,false),(1,false),(2,false),(3,false),(4,false),(5,false),(6,false),(7,false),(8,false),(9,false),(10,false),(11,false),(12,false),(13,false),(14,false),(15,false),(16,false),(17,false),(18,false),(19,false),(20,false),(21,false),(22,false),(23,false)] (En 82 k1 (B2 P N1)) k2 (B3 P N1):=fun _ _ _ _ _ _ _ _  => by kernel_rfl
def o4:=O 796
def B4 (P:PT) (N1:Y k0):Y k2:=fun x0 x2 x3 x4 x10 x11 H=>
  idxK x0 (i64.wrap (x3+x10)) 1 (fun b1 o2=>ldI .u64 H b1 o2 (fun v3=>idxK x0 (i64.wrap (x3+x11)) 1 (fun b4 o5=>ldI .u64 H b4 o5 (fun v6=>callV Tryz.prog T0 x4 [(int .u64 v3),(int .u64 v6)] H (fun v7 H8=>asI .i64 v7 (fun v9=>pif (!(decide ((v9:Int)<0))) (P (tuple ⟨[]⟩) H8) (B3 P N1 x0 x2 x3 x4 x10 x11 H8)))))))
theorem q4 (P:PT) (N1:Y k0):QD Tryz.prog T0 82 o4 [(0,false),(1,false),(2,false),(3,false),(4,false),(5,false),(6,false),(7,false),(8,false),(9,false),(10,false),(11,false),(12,false),(13,false),(14,false),(15,false)] (cnd 58 (ret P) (En 82 k2 (B3 P N1))) k2 (B4 P N1):=fun _ _ _ _ _ _ _ _  => by kernel_rfl
def o5:=O 794
def B5 (P:PT) (N1:Y k0):Y k2:=fun x0 x2 x3 x4 x10 x11 H=>
  B4 P N1 x0 x2 x3 x4 x10 (i64.wrap (x11+1)) H
def o6:=O 396
def B6 (P:PT) (N1:Y k0):Y k2:=fun x0 x2 x3 x4 x10 x11 H=>
  pif (decide ((i64.wrap (x11+1):Int)<x2)) (idxK x0 (i64.wrap (x3+x11)) 1 (fun b1 o2=>ldI .u64 H b1 o2 (fun v3=>idxK x0 (i64.wrap ((i64.wrap (x3+x11))+1)) 1 (fun b4 o5=>ldI .u64 H b4 o5 (fun v6=>callV Tryz.prog T0 x4 [(int .u64 v3),(int .u64 v6)] H (fun v7 H8=>asI .i64 v7 (fun v9=>pif (decide ((v9:Int)<0)) (B5 P N1 x0 x2 x3 x4 x10 x11 H8) (B4 P N1 x0 x2 x3 x4 x10 x11 H8)))))))) (B4 P N1 x0 x2 x3 x4 x10 x11 H)
theorem q6 (P:PT) (N1:Y k0):QD Tryz.prog T0 82 o6 [(0,false),(1,false),(2,false),(3,false),(4,false),(5,false),(6,false),(7,false),(8,false),(9,false),(10,false),(11,false),(12,false),(13,false),(14,false),(15,false),(16,false),(17,false),(18,false),(19,false),(20,false),(21,false)] (cnd 40 (En 82 k2 (B5 P N1)) (En 82 k2 (B4 P N1))) k2 (B6 P N1):=fun _ _ _ _ _ _ _ _  => by kernel_rfl
def B7 (P:PT) (N1:Y k0):Y k2:=fun x0 x2 x3 x4 x10 x11 H=>
  pif (decide ((x11:Int)≥x2)) (P (tuple ⟨[]⟩) H) (B6 P N1 x0 x2 x3 x4 x10 x11 H)
def o8:=O 48
def B8 (P:PT) (N1:Y k0):Y k0:=fun x0 x2 x3 x4 x10 H=>
  B7 P N1 x0 x2 x3 x4 x10 (i64.wrap ((i64.wrap (2*x10))+1)) H
def L1 (P:PT):Y k0:=fun x0 x2 x3 x4 x10 H=>
  ∃ (I:Y k0) (μ:NTy k0 (AHeap→Nat)),I x0 x2 x3 x4 x10 H∧∀ y0 y2 y3 y4 y10 G,I y0 y2 y3 y4 y10 G→B8 P (fun z0 z2 z3 z4 z10 G'=>I z0 z2 z3 z4 z10 G'∧μ z0 z2 z3 z4 z10 G'<μ y0 y2 y3 y4 y10 G) y0 y2 y3 y4 y10 G
theorem l1 P:LQ k0 (L1 P) (B8 P):=fun ⟨_,_,_,_,_,_⟩ _ ⟨I,μ,h0,hI⟩=>⟨apT _ I,apT _ μ,h0,fun ⟨_,_,_,_,_,_⟩ _ h=>hI _ _ _ _ _ _  h⟩
abbrev k3:Sk:=[(0,.v),(1,J),(2,J),(3,J),(4,.v)]
def B9 (P:PT):Y k3:=fun x0 x1 x2 x3 x4 H=>
  L1 P x0 x2 x3 x4 x1 H
def code:Code:=(.seq (R 0 2) (.block 0 (.loop (.block 1 (.seq (R 1 48) (.seq (.seq (R 2 196) (.cond (.tmp 18) (.exit 0) .skip)) (.seq (.seq (.region 3 ⟨o6⟩ true) (.cond (.tmp 40) (R 4 794) .skip)) (.seq (.seq (.region 5 ⟨o4⟩ true) (.cond (.tmp 58) .ret .skip)) (.seq (.region 6 ⟨o3⟩ true) (R 7 799))))))))))
theorem body:Tryz.f198.body=some code:=by kernel_rfl
theorem main P:Z 82 k3 (B9 P) code (ret P):=
  (r_seq (b (E k0 (L1 P))) (r_block (rL (l1 P) (fun N1=>(r_block (r_seq (b (E k2 (B7 P N1))) (r_seq (r_seq (b (cnd 18 (ret P) (E k2 (B6 P N1)))) (r_cond rfl (r_exit (fun _ _ h=>h)) r_skip)) (r_seq (r_seq (rD T0_ok mixed [(0,false),(1,false),(2,false),(3,false),(4,false),(5,false),(6,false),(7,false),(8,false),(9,false),(10,false),(11,false),(12,false),(13,false),(14,false),(15,false),(16,false),(17,false),(18,false),(19,false),(20,false),(21,false)] (by kernel_rfl) (q6 P N1)) (r_cond rfl (b (E k2 (B4 P N1))) r_skip)) (r_seq (r_seq (rD T0_ok mixed [(0,false),(1,false),(2,false),(3,false),(4,false),(5,false),(6,false),(7,false),(8,false),(9,false),(10,false),(11,false),(12,false),(13,false),(14,false),(15,false)] (by kernel_rfl) (q4 P N1)) (r_cond rfl r_ret r_skip)) (r_seq (rD T0_ok mixed [(0,false),(1,false),(2,false),(3,false),(4,false),(5,false),(6,false),(7,false),(8,false),(9,false),(10,false),(11,false),(12,false),(13,false),(14,false),(15,false),(16,false),(17,false),(18,false),(19,false),(20,false),(21,false),(22,false),(23,false)] (by kernel_rfl) (q3 P N1)) (b (E k0 N1))))))))))))
theorem ac (P:PT) (x0:Value) (x1 x2 x3:Int) (x4:Value) (H:AHeap) (h:B9 P x0 x1 x2 x3 x4 H):A 198 [x0,(I x1),(I x2),(I x3),x4] H P:=
  r_fn T0_ok (c:=code) (n:=82) Tryz.func198 body (by kernel_rfl) (main P) (En_mk (x0,x1,x2,x3,x4,()) (by kernel_rfl) ⟨by kernel_rfl,by kernel_rfl,by kernel_rfl,by kernel_rfl,by kernel_rfl,trivial⟩ h)

end F198
namespace F199
abbrev E:=En 7
def O (k:Nat):=ob Tryz.f199 (pth k)
abbrev R (i k:Nat):Code:=.region i ⟨O k⟩ false
def ret (P:PT):EP:=retE T0 7 Tryz.f199 P
abbrev k0:Sk:=[(0,J)]
def B1 (P:PT):Y k0:=fun x0 H=>
  A 123 [(int .u64 (u64.wrap x0))] H (fun v1 H2=>asI .i64 v1 (fun v3=>((0:Int)≤v3)∧(P (int .u64 (u64.wrap (1*2^(min (Int.toNat v3) 64)))) H2)))
def B2 (P:PT):Y k0:=fun x0 H=>
  B1 P x0 H
def code:Code:=(.seq (R 0 2) (.seq (R 1 6) .ret))
theorem body:Tryz.f199.body=some code:=by kernel_rfl
theorem main P:Z 7 k0 (B2 P) code (ret P):=
  (r_seq (b (E k0 (B1 P))) (r_seq (b (ret P)) r_ret))
theorem ac (P:PT) (x0:Int) (H:AHeap) (h:B2 P x0 H):A 199 [(I x0)] H P:=
  r_fn T0_ok (c:=code) (n:=7) Tryz.func199 body (by kernel_rfl) (main P) (En_mk (x0,()) (by kernel_rfl) ⟨by kernel_rfl,trivial⟩ h)

end F199
namespace F200
abbrev E:=En 33
def O (k:Nat):=ob Tryz.f200 (pth k)
abbrev R (i k:Nat):Code:=.region i ⟨O k⟩ false
def ret (P:PT):EP:=retE T0 33 Tryz.f200 P
abbrev k0:Sk:=[(0,.v)]
def B1 (P:PT):Y k0:=fun x0 H=>
  nilK x0 (fun v1=>asP v1 (fun b2 o3=>ldI .u64 H b2 o3 (fun v4=>P (int .u64 v4) H)))
def o2:=O 30
def B2 (P:PT):Y k0:=fun x0 H=>
  nilK x0 (fun v1=>asP v1 (fun b2 o3=>ldI .u64 H b2 o3 (fun v4=>nilK x0 (fun v5=>asP v5 (fun b6 o7=>ldI .u64 H b6 o7 (fun v8=>((0:Int)≤17)∧(nilK x0 (fun v9=>asP v9 (fun b10 o11=>stK H b10 o11 [(int .u64 (u64.wrap (BitVec.ofInt 64 v4 ^^^ BitVec.ofInt 64 (u64.wrap (v8*2^(min (Int.toNat 17) 64)))).toNat))] (fun H12=>B1 P x0 H12))))))))))
theorem q2 (P:PT):QD Tryz.prog T0 33 o2 [(0,false),(1,false),(2,false),(3,false),(4,false),(5,false),(6,false),(7,false),(8,false),(9,false)] (En 33 k0 (B1 P)) k0 (B2 P):=fun _ _ _  => by kernel_rfl
def o3:=O 14
def B3 (P:PT):Y k0:=fun x0 H=>
  nilK x0 (fun v1=>asP v1 (fun b2 o3=>ldI .u64 H b2 o3 (fun v4=>nilK x0 (fun v5=>asP v5 (fun b6 o7=>ldI .u64 H b6 o7 (fun v8=>((0:Int)≤7)∧(nilK x0 (fun v9=>asP v9 (fun b10 o11=>stK H b10 o11 [(int .u64 (u64.wrap (BitVec.ofInt 64 v4 ^^^ BitVec.ofInt 64 (Int.fdiv v8 (2^(min (Int.toNat 7) 64)))).toNat))] (fun H12=>B2 P x0 H12))))))))))
theorem q3 (P:PT):QD Tryz.prog T0 33 o3 [(0,false),(1,false),(2,false),(3,false),(4,false),(5,false),(6,false),(7,false),(8,false),(9,false)] (En 33 k0 (B2 P)) k0 (B3 P):=fun _ _ _  => by kernel_rfl
def o4:=O 6
def B4 (P:PT):Y k0:=fun x0 H=>
  nilK x0 (fun v1=>asP v1 (fun b2 o3=>ldI .u64 H b2 o3 (fun v4=>nilK x0 (fun v5=>asP v5 (fun b6 o7=>ldI .u64 H b6 o7 (fun v8=>((0:Int)≤13)∧(nilK x0 (fun v9=>asP v9 (fun b10 o11=>stK H b10 o11 [(int .u64 (u64.wrap (BitVec.ofInt 64 v4 ^^^ BitVec.ofInt 64 (u64.wrap (v8*2^(min (Int.toNat 13) 64)))).toNat))] (fun H12=>B3 P x0 H12))))))))))
theorem q4 (P:PT):QD Tryz.prog T0 33 o4 [(0,false),(1,false),(2,false),(3,false),(4,false),(5,false),(6,false),(7,false),(8,false),(9,false)] (En 33 k0 (B3 P)) k0 (B4 P):=fun _ _ _  => by kernel_rfl
def B5 (P:PT):Y k0:=fun x0 H=>
  B4 P x0 H
def code:Code:=(.seq (R 0 2) (.seq (.region 1 ⟨o4⟩ true) (.seq (.region 2 ⟨o3⟩ true) (.seq (.region 3 ⟨o2⟩ true) (.seq (R 4 62) .ret)))))
theorem body:Tryz.f200.body=some code:=by kernel_rfl
theorem main P:Z 33 k0 (B5 P) code (ret P):=
  (r_seq (b (E k0 (B4 P))) (r_seq (rD T0_ok mixed [(0,false),(1,false),(2,false),(3,false),(4,false),(5,false),(6,false),(7,false),(8,false),(9,false)] (by kernel_rfl) (q4 P)) (r_seq (rD T0_ok mixed [(0,false),(1,false),(2,false),(3,false),(4,false),(5,false),(6,false),(7,false),(8,false),(9,false)] (by kernel_rfl) (q3 P)) (r_seq (rD T0_ok mixed [(0,false),(1,false),(2,false),(3,false),(4,false),(5,false),(6,false),(7,false),(8,false),(9,false)] (by kernel_rfl) (q2 P)) (r_seq (b (ret P)) r_ret)))))
theorem ac (P:PT) (x0:Value) (H:AHeap) (h:B5 P x0 H):A 200 [x0] H P:=
  r_fn T0_ok (c:=code) (n:=33) Tryz.func200 body (by kernel_rfl) (main P) (En_mk (x0,()) (by kernel_rfl) ⟨by kernel_rfl,trivial⟩ h)

end F200
namespace F201
abbrev E:=En 18
def O (k:Nat):=ob Tryz.f201 (pth k)
abbrev R (i k:Nat):Code:=.region i ⟨O k⟩ false
def ret (P:PT):EP:=retE T0 18 Tryz.f201 P
abbrev k0:Sk:=[(0,.v),(1,J),(2,.v),(3,.v)]
def B1 (P:PT):Y k0:=fun x0 x1 x2 x3 H=>
  A 202 [x0,(I (i64.wrap (x1-1))),(I x1),(I (i64.wrap (x1+1))),x2,x3] H (fun v1 H2=>asI .i64 v1 (fun v3=>P (I v3) H2))
def B2 (P:PT):Y k0:=fun x0 x1 x2 x3 H=>
  B1 P x0 x1 x2 x3 H
def code:Code:=(.seq (R 0 2) (.seq (R 1 6) .ret))
theorem body:Tryz.f201.body=some code:=by kernel_rfl
theorem main P:Z 18 k0 (B2 P) code (ret P):=
  (r_seq (b (E k0 (B1 P))) (r_seq (b (ret P)) r_ret))
theorem ac (P:PT) (x0:Value) (x1:Int) (x2 x3:Value) (H:AHeap) (h:B2 P x0 x1 x2 x3 H):A 201 [x0,(I x1),x2,x3] H P:=
  r_fn T0_ok (c:=code) (n:=18) Tryz.func201 body (by kernel_rfl) (main P) (En_mk (x0,x1,x2,x3,()) (by kernel_rfl) ⟨by kernel_rfl,by kernel_rfl,by kernel_rfl,by kernel_rfl,trivial⟩ h)

end F201
namespace F202
abbrev E:=En 41
def O (k:Nat):=ob Tryz.f202 (pth k)
abbrev R (i k:Nat):Code:=.region i ⟨O k⟩ false
def ret (P:PT):EP:=retE T0 41 Tryz.f202 P
abbrev k0:Sk:=[(2,J)]
def B1 (P:PT):Y k0:=fun x2 H=>
  P (I x2) H
abbrev k1:Sk:=[(0,.v),(1,J),(2,J),(4,.v),(5,.v)]
def B2 (P:PT):Y k1:=fun x0 x1 x2 x4 x5 H=>
  A 209 [x0,(I x1),(I x2),x4,x5] H (fun v1 H2=>tup2 v1 (fun v3 v4=>asI .i64 v3 (fun v5=>asI .i64 v4 (fun v6=>B1 P v6 H2))))
abbrev k2:Sk:=[(0,.v),(1,J),(2,J),(3,J),(4,.v),(5,.v)]
def B3 (P:PT):Y k2:=fun x0 x1 x2 x3 x4 x5 H=>
  A 209 [x0,(I x2),(I x3),x4,x5] H (fun v1 H2=>tup2 v1 (fun v3 v4=>asI .i64 v3 (fun v5=>asI .i64 v4 (fun v6=>B2 P x0 x1 v5 x4 x5 H2))))
def B4 (P:PT):Y k2:=fun x0 x1 x2 x3 x4 x5 H=>
  A 209 [x0,(I x1),(I x2),x4,x5] H (fun v1 H2=>tup2 v1 (fun v3 v4=>asI .i64 v3 (fun v5=>asI .i64 v4 (fun v6=>B3 P x0 v5 v6 x3 x4 x5 H2))))
def B5 (P:PT):Y k2:=fun x0 x1 x2 x3 x4 x5 H=>
  B4 P x0 x1 x2 x3 x4 x5 H
def code:Code:=(.seq (R 0 2) (.seq (R 1 6) (.seq (R 2 14) (.seq (R 3 30) (.seq (R 4 62) .ret)))))
theorem body:Tryz.f202.body=some code:=by kernel_rfl
theorem main P:Z 41 k2 (B5 P) code (ret P):=
  (r_seq (b (E k2 (B4 P))) (r_seq (b (E k2 (B3 P))) (r_seq (b (E k1 (B2 P))) (r_seq (b (E k0 (B1 P))) (r_seq (b (ret P)) r_ret)))))
theorem ac (P:PT) (x0:Value) (x1 x2 x3:Int) (x4 x5:Value) (H:AHeap) (h:B5 P x0 x1 x2 x3 x4 x5 H):A 202 [x0,(I x1),(I x2),(I x3),x4,x5] H P:=
  r_fn T0_ok (c:=code) (n:=41) Tryz.func202 body (by kernel_rfl) (main P) (En_mk (x0,x1,x2,x3,x4,x5,()) (by kernel_rfl) ⟨by kernel_rfl,by kernel_rfl,by kernel_rfl,by kernel_rfl,by kernel_rfl,by kernel_rfl,trivial⟩ h)

end F202
namespace F204
abbrev E:=En 51
def O (k:Nat):=ob Tryz.f204 (pth k)
abbrev R (i k:Nat):Code:=.region i ⟨O k⟩ false
def ret (P:PT):EP:=retE T0 51 Tryz.f204 P
abbrev k0:Sk:=[(0,.i .u64),(1,.i .u64),(4,.i .u64)]
def B1 (P:PT):Y k0:=fun x0 x1 x4 H=>
  P (tuple ⟨[(int .u64 x4),(int .u64 (u64.wrap (x0*x1)))]⟩) H
abbrev k1:Sk:=[(0,.i .u64),(1,.i .u64),(7,.i .u64),(9,.i .u64),(12,.i .u64),(13,.i .u64)]
def B2 (P:PT):Y k1:=fun x0 x1 x7 x9 x12 x13 H=>
  ((0:Int)≤32)∧(B1 P x0 x1 (u64.wrap ((u64.wrap ((u64.wrap (x7*x9))+x13))+(Int.fdiv x12 (2^(min (Int.toNat 32) 64))))) H)
abbrev k2:Sk:=[(0,.i .u64),(1,.i .u64),(6,.i .u64),(7,.i .u64),(9,.i .u64),(12,.i .u64),(13,.i .u64)]
def B3 (P:PT):Y k2:=fun x0 x1 x6 x7 x9 x12 x13 H=>
  B2 P x0 x1 x7 x9 (u64.wrap (x12+(u64.wrap (x6*x9)))) x13 H
abbrev k3:Sk:=[(0,.i .u64),(1,.i .u64),(6,.i .u64),(7,.i .u64),(9,.i .u64),(11,.i .u64),(12,.i .u64)]
def B4 (P:PT):Y k3:=fun x0 x1 x6 x7 x9 x11 x12 H=>
  ((0:Int)≤32)∧(B3 P x0 x1 x6 x7 x9 x12 (Int.fdiv x11 (2^(min (Int.toNat 32) 64))) H)
abbrev k4:Sk:=[(0,.i .u64),(1,.i .u64),(6,.i .u64),(7,.i .u64),(9,.i .u64),(11,.i .u64)]
def B5 (P:PT):Y k4:=fun x0 x1 x6 x7 x9 x11 H=>
  B4 P x0 x1 x6 x7 x9 x11 (u64.wrap (BitVec.ofInt 64 x11&&&BitVec.ofInt 64 4294967295).toNat) H
abbrev k5:Sk:=[(0,.i .u64),(1,.i .u64),(6,.i .u64),(7,.i .u64),(8,.i .u64),(9,.i .u64),(10,.i .u64)]
def B6 (P:PT):Y k5:=fun x0 x1 x6 x7 x8 x9 x10 H=>
  ((0:Int)≤32)∧(B5 P x0 x1 x6 x7 x9 (u64.wrap ((u64.wrap (x7*x8))+(Int.fdiv x10 (2^(min (Int.toNat 32) 64))))) H)
abbrev k6:Sk:=[(0,.i .u64),(1,.i .u64),(6,.i .u64),(7,.i .u64),(8,.i .u64),(9,.i .u64)]
def B7 (P:PT):Y k6:=fun x0 x1 x6 x7 x8 x9 H=>
  B6 P x0 x1 x6 x7 x8 x9 (u64.wrap (x6*x8)) H
abbrev k7:Sk:=[(0,.i .u64),(1,.i .u64),(6,.i .u64),(7,.i .u64),(8,.i .u64)]
def B8 (P:PT):Y k7:=fun x0 x1 x6 x7 x8 H=>
  ((0:Int)≤32)∧(B7 P x0 x1 x6 x7 x8 (Int.fdiv x1 (2^(min (Int.toNat 32) 64))) H)
abbrev k8:Sk:=[(0,.i .u64),(1,.i .u64),(6,.i .u64),(7,.i .u64)]
def B9 (P:PT):Y k8:=fun x0 x1 x6 x7 H=>
  B8 P x0 x1 x6 x7 (u64.wrap (BitVec.ofInt 64 x1&&&BitVec.ofInt 64 4294967295).toNat) H
abbrev k9:Sk:=[(0,.i .u64),(1,.i .u64),(6,.i .u64)]
def B10 (P:PT):Y k9:=fun x0 x1 x6 H=>
  ((0:Int)≤32)∧(B9 P x0 x1 x6 (Int.fdiv x0 (2^(min (Int.toNat 32) 64))) H)
abbrev k10:Sk:=[(0,.i .u64),(1,.i .u64)]
def B11 (P:PT):Y k10:=fun x0 x1 H=>
  B10 P x0 x1 (u64.wrap (BitVec.ofInt 64 x0&&&BitVec.ofInt 64 4294967295).toNat) H
def B12 (P:PT):Y k10:=fun x0 x1 H=>
  B11 P x0 x1 H
def code:Code:=(.seq (R 0 2) (.seq (R 1 6) (.seq (R 2 14) (.seq (R 3 30) (.seq (R 4 62) (.seq (R 5 126) (.seq (R 6 254) (.seq (R 7 510) (.seq (R 8 1022) (.seq (R 9 2046) (.seq (R 10 4094) (.seq (R 11 8190) .ret))))))))))))
theorem body:Tryz.f204.body=some code:=by kernel_rfl
theorem main P:Z 51 k10 (B12 P) code (ret P):=
  (r_seq (b (E k10 (B11 P))) (r_seq (b (E k9 (B10 P))) (r_seq (b (E k8 (B9 P))) (r_seq (b (E k7 (B8 P))) (r_seq (b (E k6 (B7 P))) (r_seq (b (E k5 (B6 P))) (r_seq (b (E k4 (B5 P))) (r_seq (b (E k3 (B4 P))) (r_seq (b (E k2 (B3 P))) (r_seq (b (E k1 (B2 P))) (r_seq (b (E k0 (B1 P))) (r_seq (b (ret P)) r_ret))))))))))))
theorem ac (P:PT) (x0 x1:Int) (H:AHeap) (h:B12 P x0 x1 H):A 204 [(int .u64 x0),(int .u64 x1)] H P:=
  r_fn T0_ok (c:=code) (n:=51) Tryz.func204 body (by kernel_rfl) (main P) (En_mk (x0,x1,()) (by kernel_rfl) ⟨by kernel_rfl,by kernel_rfl,trivial⟩ h)

end F204
namespace F207
abbrev E:=En 19
def O (k:Nat):=ob Tryz.f207 (pth k)
abbrev R (i k:Nat):Code:=.region i ⟨O k⟩ false
def ret (P:PT):EP:=retE T0 19 Tryz.f207 P
abbrev k0:Sk:=[]
def B1 (P:PT):Y k0:=fun H=>
  P (I (-1)) H
abbrev k1:Sk:=[(0,.v),(1,.v),(7,J),(8,J)]
def B3 (P:PT) (N2:Y k1):Y k1:=fun x0 x1 x7 x8 H=>
  N2 x0 x1 x7 (i64.wrap (x8+1)) H
abbrev k2:Sk:=[(5,J)]
def B4 (P:PT) (N2:Y k1):Y k2:=fun x5 H=>
  P (I x5) H
abbrev k3:Sk:=[(0,.v),(1,.v),(5,J),(7,J),(8,J)]
def B5 (P:PT) (N2:Y k1):Y k3:=fun x0 x1 x5 x7 x8 H=>
  idxK x0 x5 1 (fun b1 o2=>li H b1 o2 (fun v3=>callV Tryz.prog T0 x1 [(I v3)] H (fun v4 H5=>asB v4 (fun v6=>pif v6 (B4 P N2 x5 H5) (B3 P N2 x0 x1 x7 x8 H5)))))
def B6 (P:PT) (N2:Y k1):Y k1:=fun x0 x1 x7 x8 H=>
  B5 P N2 x0 x1 x8 x7 x8 H
def B7 (P:PT) (N2:Y k1):Y k1:=fun x0 x1 x7 x8 H=>
  pif (decide ((x8:Int)<x7)) (B6 P N2 x0 x1 x7 x8 H) (B1 P H)
def L2 (P:PT):Y k1:=fun x0 x1 x7 x8 H=>
  ∃ (I:Y k1) (μ:NTy k1 (AHeap→Nat)),I x0 x1 x7 x8 H∧∀ y0 y1 y7 y8 G,I y0 y1 y7 y8 G→B7 P (fun z0 z1 z7 z8 G'=>I z0 z1 z7 z8 G'∧μ z0 z1 z7 z8 G'<μ y0 y1 y7 y8 G) y0 y1 y7 y8 G
theorem l2 P:LQ k1 (L2 P) (B7 P):=fun ⟨_,_,_,_,_⟩ _ ⟨I,μ,h0,hI⟩=>⟨apT _ I,apT _ μ,h0,fun ⟨_,_,_,_,_⟩ _ h=>hI _ _ _ _ _  h⟩
abbrev k4:Sk:=[(0,.v),(1,.v)]
def B8 (P:PT):Y k4:=fun x0 x1 H=>
  lenK x0 (fun n1=>L2 P x0 x1 (n1:Int) 0 H)
def B9 (P:PT):Y k4:=fun x0 x1 H=>
  B8 P x0 x1 H
def code:Code:=(.seq (R 0 2) (.seq (.seq (R 1 12) (.block 0 (.loop (.seq (R 2 104) (.seq (.cond (.tmp 9) .skip (.exit 0)) (.seq (.block 1 (.seq (R 3 1688) (.seq (R 4 3378) (.cond (.tmp 16) (.seq (R 5 13516) .ret) .skip)))) (R 6 423))))))) (.seq (R 7 14) .ret)))
theorem body:Tryz.f207.body=some code:=by kernel_rfl
theorem main P:Z 19 k4 (B9 P) code (ret P):=
  (r_seq (b (E k4 (B8 P))) (r_seq (r_seq (b (E k1 (L2 P))) (r_block (rL (l2 P) (fun N2=>(r_seq (b (cnd 9 (E k1 (B6 P N2)) (E k0 (B1 P)))) (r_seq (r_cond rfl r_skip (r_exit (fun _ _ h=>h))) (r_seq (r_block (r_seq (b (E k3 (B5 P N2))) (r_seq (b (cnd 16 (E k2 (B4 P N2)) (E k1 (B3 P N2)))) (r_cond rfl (r_seq (b (ret P)) r_ret) r_skip)))) (b (E k1 N2))))))))) (r_seq (b (ret P)) r_ret)))
theorem ac (P:PT) (x0 x1:Value) (H:AHeap) (h:B9 P x0 x1 H):A 207 [x0,x1] H P:=
  r_fn T0_ok (c:=code) (n:=19) Tryz.func207 body (by kernel_rfl) (main P) (En_mk (x0,x1,()) (by kernel_rfl) ⟨by kernel_rfl,by kernel_rfl,trivial⟩ h)

end F207
end
end Go.Proofs
