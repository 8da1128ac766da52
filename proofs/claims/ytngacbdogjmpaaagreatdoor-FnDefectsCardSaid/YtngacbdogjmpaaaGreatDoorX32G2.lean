import Derived.Test.YtngacbdogjmpaaaGreatDoorX32S
set_option linter.unusedVariables false
set_option maxRecDepth 100000
namespace Go.Proofs
open Go.Abs
open Value IntKind
noncomputable section
namespace F117
abbrev E:=En 69
def O (k:Nat):=ob Tryz.f117 (pth k)
abbrev R (i k:Nat):Code:=.region i ⟨O k⟩ false
def ret (P:PT):EP:=retE T0 69 Tryz.f117 P
abbrev k0:Sk:=[(3,.v)]
def B1 (P:PT):Y k0:=fun x3 H=>
  P x3 H
abbrev k1:Sk:=[(0,.v),(3,.v),(4,J)]
def B3 (P:PT) (N2:Y k1):Y k1:=fun x0 x3 x4 H=>
  N2 x0 x3 (i64.wrap (x4+1)) H
abbrev k2:Sk:=[(0,.v),(3,.v),(4,J),(5,.x),(6,J)]
def o4:=O 7463
def B4 (P:PT) (N2:Y k1):Y k2:=fun x0 x3 x4 x5 x6 H=>
  li H x5 0 (fun v1=>li H x5 1 (fun v2=>idxK x3 x6 2 (fun b3 o4=>stK H b3 o4 [(I v1),(I v2)] (fun H5=>B3 P N2 x0 x3 x4 H5))))
def o6:=O 238789
def B6 (P:PT) (N2:Y k1) (N5:Y k2):Y k2:=fun x0 x3 x4 x5 x6 H=>
  N5 x0 x3 x4 x5 (i64.wrap (x6-1)) H
def B7 (P:PT) (N2:Y k1) (N5:Y k2):Y k2:=fun x0 x3 x4 x5 x6 H=>
  idxK x3 (i64.wrap (x6-1)) 2 (fun b1 o2=>li H b1 o2 (fun v3=>li H b1 (o2+1) (fun v4=>idxK x3 x6 2 (fun b5 o6=>stK H b5 o6 [(I v3),(I v4)] (fun H7=>B6 P N2 N5 x0 x3 x4 x5 x6 H7)))))
def o8:=O 119392
def B8 (P:PT) (N2:Y k1) (N5:Y k2):Y k2:=fun x0 x3 x4 x5 x6 H=>
  pif (decide ((x6:Int)>0)) (li H x5 0 (fun v1=>li H x5 1 (fun v2=>idxK x3 (i64.wrap (x6-1)) 2 (fun b3 o4=>li H b3 o4 (fun v5=>li H b3 (o4+1) (fun v6=>A 131 [(agg ⟨[(I v1),(I v2)]⟩),(agg ⟨[(I v5),(I v6)]⟩)] H (fun v7 H8=>asB v7 (fun v9=>pif v9 (B7 P N2 N5 x0 x3 x4 x5 x6 H8) (B4 P N2 x0 x3 x4 x5 x6 H8))))))))) (B4 P N2 x0 x3 x4 x5 x6 H)
theorem q8 (P:PT) (N2:Y k1) (N5:Y k2):QD Tryz.prog T0 69 o8 [(0,false),(1,false),(2,false),(3,false),(4,false),(5,false),(6,false),(7,false),(8,false),(9,false),(10,false)] (cnd 53 (En 69 k2 (B7 P N2 N5)) (En 69 k2 (B4 P N2))) k2 (B8 P N2 N5):=fun _ _ _ _ _ _ _  => by kernel_rfl
def L5 (P:PT) (N2:Y k1):Y k2:=fun x0 x3 x4 x5 x6 H=>
  ∃ (I:Y k2) (μ:NTy k2 (AHeap→Nat)),I x0 x3 x4 x5 x6 H∧∀ y0 y3 y4 y5 y6 G,I y0 y3 y4 y5 y6 G→B8 P N2 (fun z0 z3 z4 z5 z6 G'=>I z0 z3 z4 z5 z6 G'∧μ z0 z3 z4 z5 z6 G'<μ y0 y3 y4 y5 y6 G) y0 y3 y4 y5 y6 G
theorem l5 P N2:LQ k2 (L5 P N2) (B8 P N2):=fun ⟨_,_,_,_,_,_⟩ _ ⟨I,μ,h0,hI⟩=>⟨apT _ I,apT _ μ,h0,fun ⟨_,_,_,_,_,_⟩ _ h=>hI _ _ _ _ _ _  h⟩
def B9 (P:PT) (N2:Y k1):Y k2:=fun x0 x3 x4 x5 x6 H=>
  li H x5 0 (fun v1=>li H x5 1 (fun v2=>newK H [(I v1),(I v2)] 28 (fun b3 H4=>apK T0 28 H4 x3 (slice (some ⟨b3,0,none⟩) 1 (1+1)) (fun v5 H6=>L5 P N2 x0 v5 x4 x5 x6 H6))))
def o10:=O 1864
def B10 (P:PT) (N2:Y k1):Y k1:=fun x0 x3 x4 H=>
  idxK x0 x4 2 (fun b1 o2=>li H b1 o2 (fun v3=>idxK x0 x4 2 (fun b4 o5=>li H b4 (o5+1) (fun v6=>idxK x0 x4 2 (fun b7 o8=>li H b7 o8 (fun v9=>idxK x0 x4 2 (fun b10 o11=>li H b10 (o11+1) (fun v12=>lenK x3 (fun n13=>newK H [(I 0),(I 0)] 28 (fun b14 H15=>stK H15 b14 0 [(I (if v6<v3 then v6 else v3)),(I (if v12>v9 then v12 else v9))] (fun H16=>B9 P N2 x0 x3 x4 b14 (n13:Int) H16)))))))))))
theorem q10 (P:PT) (N2:Y k1):QD Tryz.prog T0 69 o10 [(0,false),(1,false),(2,false),(3,false),(4,false),(5,false),(6,false),(7,false),(8,false),(9,false),(10,false),(11,false),(12,false),(13,false),(14,false),(15,false),(16,false),(17,false),(18,false),(19,false),(20,false),(21,false),(22,false),(23,false),(24,false),(25,false),(26,false),(27,false)] (En 69 k2 (B9 P N2)) k1 (B10 P N2):=fun _ _ _ _ _  => by kernel_rfl
def o11:=O 464
def B11 (P:PT) (N2:Y k1):Y k1:=fun x0 x3 x4 H=>
  lenK x0 (fun n1=>pif (decide ((x4:Int)<(n1:Int))) (B10 P N2 x0 x3 x4 H) (B1 P x3 H))
def L2 (P:PT):Y k1:=fun x0 x3 x4 H=>
  ∃ (I:Y k1) (μ:NTy k1 (AHeap→Nat)),I x0 x3 x4 H∧∀ y0 y3 y4 G,I y0 y3 y4 G→B11 P (fun z0 z3 z4 G'=>I z0 z3 z4 G'∧μ z0 z3 z4 G'<μ y0 y3 y4 G) y0 y3 y4 G
theorem l2 P:LQ k1 (L2 P) (B11 P):=fun ⟨_,_,_,_⟩ _ ⟨I,μ,h0,hI⟩=>⟨apT _ I,apT _ μ,h0,fun ⟨_,_,_,_⟩ _ h=>hI _ _ _ _  h⟩
abbrev k3:Sk:=[(0,.v),(3,.v)]
def B12 (P:PT):Y k3:=fun x0 x3 H=>
  L2 P x0 x3 0 H
abbrev k4:Sk:=[(0,.v)]
def B13 (P:PT):Y k4:=fun x0 H=>
  newK H [] 28 (fun b1 H2=>B12 P x0 (slice (some ⟨b1,0,none⟩) 0 (0+1)) H2)
def B14 (P:PT):Y k4:=fun x0 H=>
  B13 P x0 H
def code:Code:=(.seq (R 0 2) (.seq (R 1 6) (.seq (.seq (R 2 28) (.block 0 (.loop (.seq (.seq (R 3 464) (.cond (.tmp 11) .skip (.exit 0))) (.seq (.block 1 (.seq (.region 5 ⟨o10⟩ true) (.seq (R 6 3730) (.seq (.block 2 (.loop (.seq (.seq (.region 7 ⟨o8⟩ true) (.cond (.tmp 53) .skip (.exit 2))) (.block 3 (.seq (R 8 238788) (R 9 238789)))))) (R 10 7463))))) (R 4 467)))))) (.seq (R 11 30) .ret))))
theorem body:Tryz.f117.body=some code:=by kernel_rfl
theorem main P:Z 69 k4 (B14 P) code (ret P):=
  (r_seq (b (E k4 (B13 P))) (r_seq (b (E k3 (B12 P))) (r_seq (r_seq (b (E k1 (L2 P))) (r_block (rL (l2 P) (fun N2=>(r_seq (r_seq (b (cnd 11 (E k1 (B10 P N2)) (E k0 (B1 P)))) (r_cond rfl r_skip (r_exit (fun _ _ h=>h)))) (r_seq (r_block (r_seq (rD T0_ok mixed [(0,false),(1,false),(2,false),(3,false),(4,false),(5,false),(6,false),(7,false),(8,false),(9,false),(10,false),(11,false),(12,false),(13,false),(14,false),(15,false),(16,false),(17,false),(18,false),(19,false),(20,false),(21,false),(22,false),(23,false),(24,false),(25,false),(26,false),(27,false)] (by kernel_rfl) (q10 P N2)) (r_seq (b (E k2 (L5 P N2))) (r_seq (r_block (rL (l5 P N2) (fun N5=>(r_seq (r_seq (rD T0_ok mixed [(0,false),(1,false),(2,false),(3,false),(4,false),(5,false),(6,false),(7,false),(8,false),(9,false),(10,false)] (by kernel_rfl) (q8 P N2 N5)) (r_cond rfl r_skip (r_exit (fun _ _ h=>h)))) (r_block (r_seq (b (E k2 (B6 P N2 N5))) (b (E k2 N5)))))))) (b (E k1 (B3 P N2))))))) (b (E k1 N2)))))))) (r_seq (b (ret P)) r_ret))))
theorem ac (P:PT) (x0:Value) (H:AHeap) (h:B14 P x0 H):A 117 [x0] H P:=
  r_fn T0_ok (c:=code) (n:=69) Tryz.func117 body (by kernel_rfl) (main P) (En_mk (x0,()) (by kernel_rfl) ⟨by kernel_rfl,trivial⟩ h)

end F117
namespace F118
abbrev E:=En 10
def O (k:Nat):=ob Tryz.f118 (pth k)
abbrev R (i k:Nat):Code:=.region i ⟨O k⟩ false
def ret (P:PT):EP:=retE T0 10 Tryz.f118 P
abbrev k0:Sk:=[(0,J)]
def B1 (P:PT):Y k0:=fun x0 H=>
  A 114 [(I x0),(I 2),(I 20)] H (fun v1 H2=>asB v1 (fun v3=>pif v3 (P (bool ((Int.tmod x0 2:Int)==0)) H2) (P (bool false) H2)))
def B2 (P:PT):Y k0:=fun x0 H=>
  B1 P x0 H
def code:Code:=(.seq (R 0 2) (.seq (R 1 6) .ret))
theorem body:Tryz.f118.body=some code:=by kernel_rfl
theorem main P:Z 10 k0 (B2 P) code (ret P):=
  (r_seq (b (E k0 (B1 P))) (r_seq (b (ret P)) r_ret))
theorem ac (P:PT) (x0:Int) (H:AHeap) (h:B2 P x0 H):A 118 [(I x0)] H P:=
  r_fn T0_ok (c:=code) (n:=10) Tryz.func118 body (by kernel_rfl) (main P) (En_mk (x0,()) (by kernel_rfl) ⟨by kernel_rfl,trivial⟩ h)

end F118
namespace F119
abbrev E:=En 23
def O (k:Nat):=ob Tryz.f119 (pth k)
abbrev R (i k:Nat):Code:=.region i ⟨O k⟩ false
def ret (P:PT):EP:=retE T0 23 Tryz.f119 P
abbrev k0:Sk:=[(1,.v),(2,.x)]
def B1 (P:PT):Y k0:=fun x1 x2 H=>
  li H x2 0 (fun v1=>asP x1 (fun b2 o3=>li H b2 o3 (fun v4=>A 114 [(I v1),(I 0),(I (i64.wrap (v4-1)))] H (fun v5 H6=>asB v5 (fun v7=>pif v7 (li H6 x2 1 (fun v8=>asP x1 (fun b9 o10=>li H6 b9 o10 (fun v11=>A 114 [(I v8),(I 0),(I (i64.wrap (v11-1)))] H6 (fun v12 H13=>asB v12 (fun v14=>pif v14 (li H13 x2 0 (fun v15=>li H13 x2 1 (fun v16=>P (bool ((v15:Int) != v16)) H13))) (P (bool false) H13))))))) (P (bool false) H6))))))
abbrev k1:Sk:=[(0,.g [.i,.i]),(1,.v)]
def B2 (P:PT):Y k1:=fun x0a x0b x1 H=>
  newK H [(I x0a),(I x0b)] 28 (fun b1 H2=>B1 P x1 b1 H2)
def code:Code:=(.seq (R 0 2) (.seq (R 1 6) .ret))
theorem body:Tryz.f119.body=some code:=by kernel_rfl
theorem main P:Z 23 k1 (B2 P) code (ret P):=
  (r_seq (b (E k0 (B1 P))) (r_seq (b (ret P)) r_ret))
theorem ac (P:PT) (x0a x0b:Int) (x1:Value) (H:AHeap) (h:B2 P x0a x0b x1 H):A 119 [(agg ⟨[(I x0a),(I x0b)]⟩),x1] H P:=
  r_fn T0_ok (c:=code) (n:=23) Tryz.func119 body (by kernel_rfl) (main P) (En_mk (x0a,x0b,x1,()) (by kernel_rfl) ⟨by kernel_rfl,by kernel_rfl,trivial⟩ h)

end F119
namespace F120
abbrev E:=En 9
def O (k:Nat):=ob Tryz.f120 (pth k)
abbrev R (i k:Nat):Code:=.region i ⟨O k⟩ false
def ret (P:PT):EP:=retE T0 9 Tryz.f120 P
abbrev k0:Sk:=[(0,.v),(1,.v)]
def B1 (P:PT):Y k0:=fun x0 x1 H=>
  A 172 [x0,x1] H (fun v1 H2=>asI .i64 v1 (fun v3=>P (bool (decide ((v3:Int)≥0))) H2))
def B2 (P:PT):Y k0:=fun x0 x1 H=>
  B1 P x0 x1 H
def code:Code:=(.seq (R 0 2) (.seq (R 1 6) .ret))
theorem body:Tryz.f120.body=some code:=by kernel_rfl
theorem main P:Z 9 k0 (B2 P) code (ret P):=
  (r_seq (b (E k0 (B1 P))) (r_seq (b (ret P)) r_ret))
theorem ac (P:PT) (x0 x1:Value) (H:AHeap) (h:B2 P x0 x1 H):A 120 [x0,x1] H P:=
  r_fn T0_ok (c:=code) (n:=9) Tryz.func120 body (by kernel_rfl) (main P) (En_mk (x0,x1,()) (by kernel_rfl) ⟨by kernel_rfl,by kernel_rfl,trivial⟩ h)

end F120
namespace F121
abbrev E:=En 8
def O (k:Nat):=ob Tryz.f121 (pth k)
abbrev R (i k:Nat):Code:=.region i ⟨O k⟩ false
def ret (P:PT):EP:=retE T0 8 Tryz.f121 P
abbrev k0:Sk:=[(1,.v),(2,.x)]
def B1 (P:PT):Y k0:=fun x1 x2 H=>
  asP x1 (fun b1 o2=>ld1 H b1 o2 (fun v3=>li H x2 0 (fun v4=>li H x2 1 (fun v5=>callV Tryz.prog T0 v3 [(agg ⟨[(I v4),(I v5)]⟩)] H (fun v6 H7=>asB v6 (fun v8=>P (bool (!v8)) H7))))))
abbrev k1:Sk:=[(0,.g [.i,.i]),(1,.v)]
def o2:=O 2
def B2 (P:PT):Y k1:=fun x0a x0b x1 H=>
  newK H [(I x0a),(I x0b)] 28 (fun b1 H2=>B1 P x1 b1 H2)
def code:Code:=(.seq (R 0 2) (.seq (R 1 6) .ret))
theorem body:Tryz.f121.body=some code:=by kernel_rfl
theorem main P:Z 8 k1 (B2 P) code (ret P):=
  (r_seq (b (E k0 (B1 P))) (r_seq (b (ret P)) r_ret))
theorem ac (P:PT) (x0a x0b:Int) (x1:Value) (H:AHeap) (h:B2 P x0a x0b x1 H):A 121 [(agg ⟨[(I x0a),(I x0b)]⟩),x1] H P:=
  r_fn T0_ok (c:=code) (n:=8) Tryz.func121 body (by kernel_rfl) (main P) (En_mk (x0a,x0b,x1,()) (by kernel_rfl) ⟨by kernel_rfl,by kernel_rfl,trivial⟩ h)

end F121
namespace F122
abbrev E:=En 36
def O (k:Nat):=ob Tryz.f122 (pth k)
abbrev R (i k:Nat):Code:=.region i ⟨O k⟩ false
def ret (P:PT):EP:=retE T0 36 Tryz.f122 P
abbrev k0:Sk:=[]
def B1 (P:PT):Y k0:=fun H=>
  P (I 0) H
def o2:=O 116
def B2 (P:PT):Y k0:=fun H=>
  P (I (-1)) H
abbrev k1:Sk:=[(0,.v),(1,.v)]
def B3 (P:PT):Y k1:=fun x0 x1 H=>
  lenK x0 (fun n1=>lenK x1 (fun n2=>pif (decide (((n1:Int):Int)<(n2:Int))) (B2 P H) (B1 P H)))
abbrev k2:Sk:=[(0,.v),(1,.v),(9,.v),(10,J),(11,J)]
def B5 (P:PT) (N4:Y k2):Y k2:=fun x0 x1 x9 x10 x11 H=>
  N4 x0 x1 x9 x10 (i64.wrap (x11+1)) H
abbrev k3:Sk:=[(8,J)]
def B6 (P:PT) (N4:Y k2):Y k3:=fun x8 H=>
  P (I x8) H
abbrev k4:Sk:=[(0,.v),(1,.v),(8,J),(9,.v),(10,J),(11,J)]
def B7 (P:PT) (N4:Y k2):Y k4:=fun x0 x1 x8 x9 x10 x11 H=>
  pif ((x8:Int) != 0) (B6 P N4 x8 H) (B5 P N4 x0 x1 x9 x10 x11 H)
abbrev k5:Sk:=[(0,.v),(1,.v),(6,J),(7,J),(9,.v),(10,J),(11,J)]
def B8 (P:PT) (N4:Y k2):Y k5:=fun x0 x1 x6 x7 x9 x10 x11 H=>
  A 173 [(I x6),(I x7)] H (fun v1 H2=>asI .i64 v1 (fun v3=>B7 P N4 x0 x1 v3 x9 x10 x11 H2))
abbrev k6:Sk:=[(0,.v),(1,.v),(5,J),(6,J),(9,.v),(10,J),(11,J)]
def B9 (P:PT) (N4:Y k2):Y k6:=fun x0 x1 x5 x6 x9 x10 x11 H=>
  idxK x1 x5 1 (fun b1 o2=>li H b1 o2 (fun v3=>B8 P N4 x0 x1 x6 v3 x9 x10 x11 H))
def B10 (P:PT) (N4:Y k2):Y k0:=fun H=>
  P (I 1) H
def B11 (P:PT) (N4:Y k2):Y k6:=fun x0 x1 x5 x6 x9 x10 x11 H=>
  lenK x1 (fun n1=>pif (decide ((x5:Int)≥(n1:Int))) (B10 P N4 H) (B9 P N4 x0 x1 x5 x6 x9 x10 x11 H))
def B12 (P:PT) (N4:Y k2):Y k2:=fun x0 x1 x9 x10 x11 H=>
  idxK x9 x11 1 (fun b1 o2=>li H b1 o2 (fun v3=>B11 P N4 x0 x1 x11 v3 x9 x10 x11 H))
def B13 (P:PT) (N4:Y k2):Y k2:=fun x0 x1 x9 x10 x11 H=>
  pif (decide ((x11:Int)<x10)) (B12 P N4 x0 x1 x9 x10 x11 H) (B3 P x0 x1 H)
def L4 (P:PT):Y k2:=fun x0 x1 x9 x10 x11 H=>
  ∃ (I:Y k2) (μ:NTy k2 (AHeap→Nat)),I x0 x1 x9 x10 x11 H∧∀ y0 y1 y9 y10 y11 G,I y0 y1 y9 y10 y11 G→B13 P (fun z0 z1 z9 z10 z11 G'=>I z0 z1 z9 z10 z11 G'∧μ z0 z1 z9 z10 z11 G'<μ y0 y1 y9 y10 y11 G) y0 y1 y9 y10 y11 G
theorem l4 P:LQ k2 (L4 P) (B13 P):=fun ⟨_,_,_,_,_,_⟩ _ ⟨I,μ,h0,hI⟩=>⟨apT _ I,apT _ μ,h0,fun ⟨_,_,_,_,_,_⟩ _ h=>hI _ _ _ _ _ _  h⟩
def B14 (P:PT):Y k1:=fun x0 x1 H=>
  lenK x0 (fun n1=>L4 P x0 x1 x0 (n1:Int) 0 H)
def B15 (P:PT):Y k1:=fun x0 x1 H=>
  B14 P x0 x1 H
def code:Code:=(.seq (R 0 2) (.seq (.seq (R 1 12) (.block 0 (.loop (.seq (R 2 104) (.seq (.cond (.tmp 12) .skip (.exit 0)) (.seq (.block 1 (.seq (R 3 1688) (.seq (.seq (R 4 6756) (.cond (.tmp 19) (.seq (R 5 27028) .ret) .skip)) (.seq (R 6 6758) (.seq (R 7 13518) (.seq (R 8 27038) (.cond (.tmp 28) (.seq (R 9 108156) .ret) .skip))))))) (R 10 423))))))) (.seq (.seq (R 11 28) (.cond (.tmp 35) (.seq (R 12 116) .ret) .skip)) (.seq (R 13 30) .ret))))
theorem body:Tryz.f122.body=some code:=by kernel_rfl
theorem main P:Z 36 k1 (B15 P) code (ret P):=
  (r_seq (b (E k1 (B14 P))) (r_seq (r_seq (b (E k2 (L4 P))) (r_block (rL (l4 P) (fun N4=>(r_seq (b (cnd 12 (E k2 (B12 P N4)) (E k1 (B3 P)))) (r_seq (r_cond rfl r_skip (r_exit (fun _ _ h=>h))) (r_seq (r_block (r_seq (b (E k6 (B11 P N4))) (r_seq (r_seq (b (cnd 19 (E k0 (B10 P N4)) (E k6 (B9 P N4)))) (r_cond rfl (r_seq (b (ret P)) r_ret) r_skip)) (r_seq (b (E k5 (B8 P N4))) (r_seq (b (E k4 (B7 P N4))) (r_seq (b (cnd 28 (E k3 (B6 P N4)) (E k2 (B5 P N4)))) (r_cond rfl (r_seq (b (ret P)) r_ret) r_skip))))))) (b (E k2 N4))))))))) (r_seq (r_seq (b (cnd 35 (E k0 (B2 P)) (E k0 (B1 P)))) (r_cond rfl (r_seq (b (ret P)) r_ret) r_skip)) (r_seq (b (ret P)) r_ret))))
theorem ac (P:PT) (x0 x1:Value) (H:AHeap) (h:B15 P x0 x1 H):A 122 [x0,x1] H P:=
  r_fn T0_ok (c:=code) (n:=36) Tryz.func122 body (by kernel_rfl) (main P) (En_mk (x0,x1,()) (by kernel_rfl) ⟨by kernel_rfl,by kernel_rfl,trivial⟩ h)

end F122
namespace F123
abbrev E:=En 9
def O (k:Nat):=ob Tryz.f123 (pth k)
abbrev R (i k:Nat):Code:=.region i ⟨O k⟩ false
def ret (P:PT):EP:=retE T0 9 Tryz.f123 P
abbrev k0:Sk:=[(0,.v),(3,.x)]
def B1 (P:PT):Y k0:=fun x0 x3 H=>
  A 174 [x0,(func (.func 175) ⟨[]⟩ ⟨[(pointer (some ⟨x3,0,none⟩))]⟩)] H (fun v1 H2=>asB v1 (fun v3=>P (bool (!v3)) H2))
abbrev k1:Sk:=[(0,.v),(1,.v)]
def B2 (P:PT):Y k1:=fun x0 x1 H=>
  pif (Value.oneCell' x1) (newK H [x1] 128 (fun b1 H2=>B1 P x0 b1 H2)) False
def code:Code:=(.seq (R 0 2) (.seq (R 1 6) .ret))
theorem body:Tryz.f123.body=some code:=by kernel_rfl
theorem main P:Z 9 k1 (B2 P) code (ret P):=
  (r_seq (b (E k0 (B1 P))) (r_seq (b (ret P)) r_ret))
theorem ac (P:PT) (x0 x1:Value) (H:AHeap) (h:B2 P x0 x1 H):A 123 [x0,x1] H P:=
  r_fn T0_ok (c:=code) (n:=9) Tryz.func123 body (by kernel_rfl) (main P) (En_mk (x0,x1,()) (by kernel_rfl) ⟨by kernel_rfl,by kernel_rfl,trivial⟩ h)

end F123
namespace F124
abbrev E:=En 5
def O (k:Nat):=ob Tryz.f124 (pth k)
abbrev R (i k:Nat):Code:=.region i ⟨O k⟩ false
def ret (P:PT):EP:=retE T0 5 Tryz.f124 P
abbrev k0:Sk:=[(0,J)]
def B1 (P:PT):Y k0:=fun x0 H=>
  P (bool ((x0:Int)==3)) H
def B2 (P:PT):Y k0:=fun x0 H=>
  B1 P x0 H
def code:Code:=(.seq (R 0 2) (.seq (R 1 6) .ret))
theorem body:Tryz.f124.body=some code:=by kernel_rfl
theorem main P:Z 5 k0 (B2 P) code (ret P):=
  (r_seq (b (E k0 (B1 P))) (r_seq (b (ret P)) r_ret))
theorem ac (P:PT) (x0:Int) (H:AHeap) (h:B2 P x0 H):A 124 [(I x0)] H P:=
  r_fn T0_ok (c:=code) (n:=5) Tryz.func124 body (by kernel_rfl) (main P) (En_mk (x0,()) (by kernel_rfl) ⟨by kernel_rfl,trivial⟩ h)

end F124
namespace F125
abbrev E:=En 42
def O (k:Nat):=ob Tryz.f125 (pth k)
abbrev R (i k:Nat):Code:=.region i ⟨O k⟩ false
def ret (P:PT):EP:=retE T0 42 Tryz.f125 P
abbrev k0:Sk:=[(3,.v)]
def B1 (P:PT):Y k0:=fun x3 H=>
  P x3 H
abbrev k1:Sk:=[(1,.x),(3,.v),(11,.v),(12,J),(13,J)]
def B3 (P:PT) (N2:Y k1):Y k1:=fun x1 x3 x11 x12 x13 H=>
  N2 x1 x3 x11 x12 (i64.wrap (x13+1)) H
abbrev k2:Sk:=[(1,.x),(3,.v),(7,.v),(11,.v),(12,J),(13,J)]
def B4 (P:PT) (N2:Y k1):Y k2:=fun x1 x3 x7 x11 x12 x13 H=>
  pif (Value.oneCell' x7) (newK H [x7] 42 (fun b1 H2=>apK T0 42 H2 x3 (slice (some ⟨b1,0,none⟩) 1 (1+1)) (fun v3 H4=>B3 P N2 x1 v3 x11 x12 x13 H4))) False
abbrev k3:Sk:=[(1,.x),(3,.v),(6,.i .u64),(7,.v),(11,.v),(12,J),(13,J),(20,.v),(21,J),(22,J)]
def B6 (P:PT) (N2:Y k1) (N5:Y k3):Y k3:=fun x1 x3 x6 x7 x11 x12 x13 x20 x21 x22 H=>
  N5 x1 x3 x6 x7 x11 x12 x13 x20 x21 (i64.wrap (x22+1)) H
abbrev k4:Sk:=[(1,.x),(3,.v),(6,.i .u64),(7,.v),(8,J),(11,.v),(12,J),(13,J),(20,.v),(21,J),(22,J)]
def B7 (P:PT) (N2:Y k1) (N5:Y k3):Y k4:=fun x1 x3 x6 x7 x8 x11 x12 x13 x20 x21 x22 H=>
  newK H [(I x8)] 2 (fun b1 H2=>apK T0 2 H2 x7 (slice (some ⟨b1,0,none⟩) 1 (1+1)) (fun v3 H4=>B6 P N2 N5 x1 x3 x6 v3 x11 x12 x13 x20 x21 x22 H4))
abbrev k5:Sk:=[(1,.x),(3,.v),(6,.i .u64),(7,.v),(8,J),(9,.x),(11,.v),(12,J),(13,J),(20,.v),(21,J),(22,J)]
def B8 (P:PT) (N2:Y k1) (N5:Y k3):Y k5:=fun x1 x3 x6 x7 x8 x9 x11 x12 x13 x20 x21 x22 H=>
  li H x9 0 (fun v1=>A 144 [(int .u64 x6),(I v1)] H (fun v2 H3=>asB v2 (fun v4=>pif v4 (B7 P N2 N5 x1 x3 x6 x7 x8 x11 x12 x13 x20 x21 x22 H3) (B6 P N2 N5 x1 x3 x6 x7 x11 x12 x13 x20 x21 x22 H3))))
def B9 (P:PT) (N2:Y k1) (N5:Y k3):Y k3:=fun x1 x3 x6 x7 x11 x12 x13 x20 x21 x22 H=>
  idxK x20 x22 2 (fun b1 o2=>li H b1 o2 (fun v3=>li H b1 (o2+1) (fun v4=>newK H [(I 0),(I 0)] 28 (fun b5 H6=>stK H6 b5 0 [(I v3),(I v4)] (fun H7=>B8 P N2 N5 x1 x3 x6 x7 x22 b5 x11 x12 x13 x20 x21 x22 H7)))))
def B10 (P:PT) (N2:Y k1) (N5:Y k3):Y k3:=fun x1 x3 x6 x7 x11 x12 x13 x20 x21 x22 H=>
  pif (decide ((x22:Int)<x21)) (B9 P N2 N5 x1 x3 x6 x7 x11 x12 x13 x20 x21 x22 H) (B4 P N2 x1 x3 x7 x11 x12 x13 H)
def L5 (P:PT) (N2:Y k1):Y k3:=fun x1 x3 x6 x7 x11 x12 x13 x20 x21 x22 H=>
  ∃ (I:Y k3) (μ:NTy k3 (AHeap→Nat)),I x1 x3 x6 x7 x11 x12 x13 x20 x21 x22 H∧∀ y1 y3 y6 y7 y11 y12 y13 y20 y21 y22 G,I y1 y3 y6 y7 y11 y12 y13 y20 y21 y22 G→B10 P N2 (fun z1 z3 z6 z7 z11 z12 z13 z20 z21 z22 G'=>I z1 z3 z6 z7 z11 z12 z13 z20 z21 z22 G'∧μ z1 z3 z6 z7 z11 z12 z13 z20 z21 z22 G'<μ y1 y3 y6 y7 y11 y12 y13 y20 y21 y22 G) y1 y3 y6 y7 y11 y12 y13 y20 y21 y22 G
theorem l5 P N2:LQ k3 (L5 P N2) (B10 P N2):=fun ⟨_,_,_,_,_,_,_,_,_,_,_⟩ _ ⟨I,μ,h0,hI⟩=>⟨apT _ I,apT _ μ,h0,fun ⟨_,_,_,_,_,_,_,_,_,_,_⟩ _ h=>hI _ _ _ _ _ _ _ _ _ _ _  h⟩
abbrev k6:Sk:=[(1,.x),(3,.v),(6,.i .u64),(7,.v),(11,.v),(12,J),(13,J)]
def B11 (P:PT) (N2:Y k1):Y k6:=fun x1 x3 x6 x7 x11 x12 x13 H=>
  ld1 H x1 1 (fun v1=>lenK v1 (fun n2=>L5 P N2 x1 x3 x6 x7 x11 x12 x13 v1 (n2:Int) 0 H))
abbrev k7:Sk:=[(1,.x),(3,.v),(6,.i .u64),(11,.v),(12,J),(13,J)]
def B12 (P:PT) (N2:Y k1):Y k7:=fun x1 x3 x6 x11 x12 x13 H=>
  B11 P N2 x1 x3 x6 (slice none 0 0) x11 x12 x13 H
abbrev k8:Sk:=[(1,.x),(3,.v),(5,.v),(11,.v),(12,J),(13,J)]
def B13 (P:PT) (N2:Y k1):Y k8:=fun x1 x3 x5 x11 x12 x13 H=>
  A 103 [x5] H (fun v1 H2=>asI .u64 v1 (fun v3=>B12 P N2 x1 x3 v3 x11 x12 x13 H2))
def B14 (P:PT) (N2:Y k1):Y k1:=fun x1 x3 x11 x12 x13 H=>
  idxK x11 x13 1 (fun b1 o2=>ld1 H b1 o2 (fun v3=>B13 P N2 x1 x3 v3 x11 x12 x13 H))
def B15 (P:PT) (N2:Y k1):Y k1:=fun x1 x3 x11 x12 x13 H=>
  pif (decide ((x13:Int)<x12)) (B14 P N2 x1 x3 x11 x12 x13 H) (B1 P x3 H)
def L2 (P:PT):Y k1:=fun x1 x3 x11 x12 x13 H=>
  ∃ (I:Y k1) (μ:NTy k1 (AHeap→Nat)),I x1 x3 x11 x12 x13 H∧∀ y1 y3 y11 y12 y13 G,I y1 y3 y11 y12 y13 G→B15 P (fun z1 z3 z11 z12 z13 G'=>I z1 z3 z11 z12 z13 G'∧μ z1 z3 z11 z12 z13 G'<μ y1 y3 y11 y12 y13 G) y1 y3 y11 y12 y13 G
theorem l2 P:LQ k1 (L2 P) (B15 P):=fun ⟨_,_,_,_,_,_⟩ _ ⟨I,μ,h0,hI⟩=>⟨apT _ I,apT _ μ,h0,fun ⟨_,_,_,_,_,_⟩ _ h=>hI _ _ _ _ _ _  h⟩
abbrev k9:Sk:=[(1,.x),(3,.v)]
def B16 (P:PT):Y k9:=fun x1 x3 H=>
  li H x1 0 (fun v1=>ld1 H x1 1 (fun v2=>A 176 [(agg ⟨[(I v1),v2]⟩),(int .u64 0)] H (fun v3 H4=>lenK v3 (fun n6=>L2 P x1 x3 v3 (n6:Int) 0 H4))))
abbrev k10:Sk:=[(1,.x)]
def B17 (P:PT):Y k10:=fun x1 H=>
  B16 P x1 (slice none 0 0) H
abbrev k11:Sk:=[(0,.g [.i,.v])]
def B18 (P:PT):Y k11:=fun x0a x0b H=>
  newK H [(I x0a),x0b] 31 (fun b1 H2=>B17 P b1 H2)
def code:Code:=(.seq (R 0 2) (.seq (R 1 6) (.seq (.seq (R 2 28) (.block 0 (.loop (.seq (R 3 232) (.seq (.cond (.tmp 14) .skip (.exit 0)) (.seq (.block 1 (.seq (R 4 3736) (.seq (R 5 7474) (.seq (R 6 14950) (.seq (.seq (R 7 59804) (.block 2 (.loop (.seq (R 8 478440) (.seq (.cond (.tmp 23) .skip (.exit 2)) (.seq (.block 3 (.seq (R 9 7655064) (.seq (R 10 15310130) (.cond (.tmp 30) (R 11 30620262) .skip)))) (R 12 1913767))))))) (R 13 29903)))))) (R 14 935))))))) (.seq (R 15 30) .ret))))
theorem body:Tryz.f125.body=some code:=by kernel_rfl
theorem main P:Z 42 k11 (B18 P) code (ret P):=
  (r_seq (b (E k10 (B17 P))) (r_seq (b (E k9 (B16 P))) (r_seq (r_seq (b (E k1 (L2 P))) (r_block (rL (l2 P) (fun N2=>(r_seq (b (cnd 14 (E k1 (B14 P N2)) (E k0 (B1 P)))) (r_seq (r_cond rfl r_skip (r_exit (fun _ _ h=>h))) (r_seq (r_block (r_seq (b (E k8 (B13 P N2))) (r_seq (b (E k7 (B12 P N2))) (r_seq (b (E k6 (B11 P N2))) (r_seq (r_seq (b (E k3 (L5 P N2))) (r_block (rL (l5 P N2) (fun N5=>(r_seq (b (cnd 23 (E k3 (B9 P N2 N5)) (E k2 (B4 P N2)))) (r_seq (r_cond rfl r_skip (r_exit (fun _ _ h=>h))) (r_seq (r_block (r_seq (b (E k5 (B8 P N2 N5))) (r_seq (b (cnd 30 (E k4 (B7 P N2 N5)) (E k3 (B6 P N2 N5)))) (r_cond rfl (b (E k3 (B6 P N2 N5))) r_skip)))) (b (E k3 N5))))))))) (b (E k1 (B3 P N2)))))))) (b (E k1 N2))))))))) (r_seq (b (ret P)) r_ret))))
theorem ac (P:PT) (x0a:Int) (x0b:Value) (H:AHeap) (h:B18 P x0a x0b H):A 125 [(agg ⟨[(I x0a),x0b]⟩)] H P:=
  r_fn T0_ok (c:=code) (n:=42) Tryz.func125 body (by kernel_rfl) (main P) (En_mk (x0a,x0b,()) (by kernel_rfl) ⟨by kernel_rfl,trivial⟩ h)

end F125
namespace F126
abbrev E:=En 40
def O (k:Nat):=ob Tryz.f126 (pth k)
abbrev R (i k:Nat):Code:=.region i ⟨O k⟩ false
def ret (P:PT):EP:=retE T0 40 Tryz.f126 P
abbrev k0:Sk:=[(9,.v)]
def B1 (P:PT):Y k0:=fun x9 H=>
  P x9 H
abbrev k1:Sk:=[(9,.v),(27,.v),(28,J),(29,J)]
def B3 (P:PT) (N2:Y k1):Y k1:=fun x9 x27 x28 x29 H=>
  N2 x9 x27 x28 (i64.wrap (x29+1)) H
abbrev k2:Sk:=[(9,.v),(10,J),(11,J),(27,.v),(28,J),(29,J)]
def B4 (P:PT) (N2:Y k1):Y k2:=fun x9 x10 x11 x27 x28 x29 H=>
  A 178 [x9,(I x11),(I x10)] H (fun v1 H2=>asTup v1 (fun l3=>B3 P N2 x9 x27 x28 x29 H2))
def B5 (P:PT) (N2:Y k1):Y k1:=fun x9 x27 x28 x29 H=>
  idxK x27 x29 1 (fun b1 o2=>li H b1 o2 (fun v3=>B4 P N2 x9 x29 v3 x27 x28 x29 H))
def B6 (P:PT) (N2:Y k1):Y k1:=fun x9 x27 x28 x29 H=>
  pif (decide ((x29:Int)<x28)) (B5 P N2 x9 x27 x28 x29 H) (B1 P x9 H)
def L2 (P:PT):Y k1:=fun x9 x27 x28 x29 H=>
  ∃ (I:Y k1) (μ:NTy k1 (AHeap→Nat)),I x9 x27 x28 x29 H∧∀ y9 y27 y28 y29 G,I y9 y27 y28 y29 G→B6 P (fun z9 z27 z28 z29 G'=>I z9 z27 z28 z29 G'∧μ z9 z27 z28 z29 G'<μ y9 y27 y28 y29 G) y9 y27 y28 y29 G
theorem l2 P:LQ k1 (L2 P) (B6 P):=fun ⟨_,_,_,_,_⟩ _ ⟨I,μ,h0,hI⟩=>⟨apT _ I,apT _ μ,h0,fun ⟨_,_,_,_,_⟩ _ h=>hI _ _ _ _ _  h⟩
abbrev k3:Sk:=[(4,.x),(9,.v)]
def B7 (P:PT):Y k3:=fun x4 x9 H=>
  li H x4 0 (fun v1=>ld1 H x4 1 (fun v2=>A 112 [(agg ⟨[(I v1),v2]⟩),(I 0)] H (fun v3 H4=>lenK v3 (fun n6=>L2 P x9 v3 (n6:Int) 0 H4))))
abbrev k4:Sk:=[(2,.b),(4,.x),(9,.v)]
def B8 (P:PT):Y k4:=fun x2 x4 x9 H=>
  pif x2 (B7 P x4 x9 H) (B1 P x9 H)
abbrev k5:Sk:=[(1,.v),(2,.b),(3,.v),(4,.x)]
def o9:=O 6
def B9 (P:PT):Y k5:=fun x1 x2 x3 x4 H=>
  li H x4 0 (fun v1=>ld1 H x4 1 (fun v2=>ld1 H x4 1 (fun v3=>lenK v3 (fun n4=>li H x4 0 (fun v5=>(newK H [(I (-1))] 2 (fun b6 H7=>(A 177 [(slice (some ⟨b6,0,none⟩) 1 (1+1)),(I (n4:Int))] H7 (fun v8 H9=>(li H9 x4 0 (fun v11=>ld1 H9 x4 1 (fun v12=>((agg ⟨[(I v11),v12]⟩)=(agg ⟨[(I v1),v2]⟩))∧(H9=H9))))∧((li H9 x4 0 (fun v13=>((I v13)=(I v5))∧(H9=H9)))∧(mkR H9 8 83 [(int .u64 0)] v5 v5 (fun v15 H14=>pif (Value.oneCell' x1) (pif (Value.oneCell' v8) (pif (Value.oneCell' v15) (pif (Value.oneCell' x3) (newK H14 [(I v1),v2,x1,v8,v15,x3] 159 (fun b16 H17=>B8 P x2 x4 (pointer (some ⟨b16,0,none⟩)) H17)) False) False) False) False)))))∧(mkR H7 8 83 [(int .u64 0)] v5 v5 (fun v19 H18=>A 177 [(slice (some ⟨b6,0,none⟩) 1 (1+1)),(I (n4:Int))] H18 (fun v20 H21=>(li H21 x4 0 (fun v23=>ld1 H21 x4 1 (fun v24=>((agg ⟨[(I v23),v24]⟩)=(agg ⟨[(I v1),v2]⟩))∧(H21=H21))))∧((li H21 x4 0 (fun v25=>((I v25)=(I v5))∧(H21=H21)))∧(pif (Value.oneCell' x1) (pif (Value.oneCell' v20) (pif (Value.oneCell' v19) (pif (Value.oneCell' x3) (newK H21 [(I v1),v2,x1,v20,v19,x3] 159 (fun b26 H27=>B8 P x2 x4 (pointer (some ⟨b26,0,none⟩)) H27)) False) False) False) False)))))))∧(mkR H 8 83 [(int .u64 0)] v5 v5 (fun v29 H28=>newK H28 [(I (-1))] 2 (fun b30 H31=>A 177 [(slice (some ⟨b30,0,none⟩) 1 (1+1)),(I (n4:Int))] H31 (fun v32 H33=>(li H33 x4 0 (fun v35=>ld1 H33 x4 1 (fun v36=>((agg ⟨[(I v35),v36]⟩)=(agg ⟨[(I v1),v2]⟩))∧(H33=H33))))∧((li H33 x4 0 (fun v37=>((I v37)=(I v5))∧(H33=H33)))∧(pif (Value.oneCell' x1) (pif (Value.oneCell' v32) (pif (Value.oneCell' v29) (pif (Value.oneCell' x3) (newK H33 [(I v1),v2,x1,v32,v29,x3] 159 (fun b38 H39=>B8 P x2 x4 (pointer (some ⟨b38,0,none⟩)) H39)) False) False) False) False)))))))))))
theorem q9 (P:PT):QT Tryz.prog T0 40 o9 (.op 0 [] (.op 1 [] (.op 3 [] (.op 4 [] (.op 5 [] (.op 7 [] (.op 8 [] (.op 10 [] (.alt (.op 2 [] (.alt (.op 6 [0,8] (.op 9 [] (.op 11 [] (.op 12 [] (.op 13 [] .done))))) (.op 9 [] (.op 6 [0,8] (.op 11 [] (.op 12 [] (.op 13 [] .done))))))) (.op 9 [] (.op 2 [] (.op 6 [0,8] (.op 11 [] (.op 12 [] (.op 13 [] .done))))))))))))))) (En 40 k4 (B8 P)) k5 (B9 P):=fun _ _ _ _ _ _  => by kernel_rfl
abbrev k6:Sk:=[(0,.g [.i,.v]),(1,.v),(2,.b),(3,.v)]
def B10 (P:PT):Y k6:=fun x0a x0b x1 x2 x3 H=>
  newK H [(I x0a),x0b] 31 (fun b1 H2=>B9 P x1 x2 x3 b1 H2)
def code:Code:=(.seq (R 0 2) (.seq (.region 1 ⟨o9⟩ true) (.seq (.seq (R 2 28) (.cond (.tmp 25) (.seq (R 3 116) (.block 0 (.loop (.seq (R 4 936) (.seq (.cond (.tmp 30) .skip (.exit 0)) (.seq (.block 1 (.seq (R 5 15000) (R 6 15001))) (R 7 3751))))))) .skip)) (.seq (R 8 30) .ret))))
theorem body:Tryz.f126.body=some code:=by kernel_rfl
theorem main P:Z 40 k6 (B10 P) code (ret P):=
  (r_seq (b (E k5 (B9 P))) (r_seq (rT T0_ok mixed (.op 0 [] (.op 1 [] (.op 3 [] (.op 4 [] (.op 5 [] (.op 7 [] (.op 8 [] (.op 10 [] (.alt (.op 2 [] (.alt (.op 6 [0,8] (.op 9 [] (.op 11 [] (.op 12 [] (.op 13 [] .done))))) (.op 9 [] (.op 6 [0,8] (.op 11 [] (.op 12 [] (.op 13 [] .done))))))) (.op 9 [] (.op 2 [] (.op 6 [0,8] (.op 11 [] (.op 12 [] (.op 13 [] .done))))))))))))))) (by kernel_rfl) (q9 P)) (r_seq (r_seq (b (cnd 25 (E k3 (B7 P)) (E k0 (B1 P)))) (r_cond rfl (r_seq (b (E k1 (L2 P))) (r_block (rL (l2 P) (fun N2=>(r_seq (b (cnd 30 (E k1 (B5 P N2)) (E k0 (B1 P)))) (r_seq (r_cond rfl r_skip (r_exit (fun _ _ h=>h))) (r_seq (r_block (r_seq (b (E k2 (B4 P N2))) (b (E k1 (B3 P N2))))) (b (E k1 N2))))))))) r_skip)) (r_seq (b (ret P)) r_ret))))
theorem ac (P:PT) (x0a:Int) (x0b x1:Value) (x2:Bool) (x3:Value) (H:AHeap) (h:B10 P x0a x0b x1 x2 x3 H):A 126 [(agg ⟨[(I x0a),x0b]⟩),x1,(bool x2),x3] H P:=
  r_fn T0_ok (c:=code) (n:=40) Tryz.func126 body (by kernel_rfl) (main P) (En_mk (x0a,x0b,x1,x2,x3,()) (by kernel_rfl) ⟨by kernel_rfl,by kernel_rfl,by kernel_rfl,by kernel_rfl,trivial⟩ h)

end F126
namespace F128
abbrev E:=En 57
def O (k:Nat):=ob Tryz.f128 (pth k)
abbrev R (i k:Nat):Code:=.region i ⟨O k⟩ false
def ret (P:PT):EP:=retE T0 57 Tryz.f128 P
abbrev k0:Sk:=[(0,.v)]
def B1 (P:PT):Y k0:=fun x0 H=>
  A 179 [x0,(I 0)] H (fun v1 H2=>asB v1 (fun v3=>P (bool v3) H2))
abbrev k1:Sk:=[(0,.v),(11,J),(12,J)]
def o3:=O 423
def B3 (P:PT) (N2:Y k1):Y k1:=fun x0 x11 x12 H=>
  N2 x0 x11 (i64.wrap (x12+1)) H
abbrev k2:Sk:=[(0,.v),(4,.i .u64),(11,J),(12,J),(20,.v),(21,J),(22,J)]
def B5 (P:PT) (N2:Y k1) (N4:Y k2):Y k2:=fun x0 x4 x11 x12 x20 x21 x22 H=>
  N4 x0 x4 x11 x12 x20 x21 (i64.wrap (x22+1)) H
abbrev k3:Sk:=[(0,.v),(4,.i .u64),(6,J),(11,J),(12,J),(20,.v),(21,J),(22,J)]
def o6:=O 3460711
def B6 (P:PT) (N2:Y k1) (N4:Y k2):Y k3:=fun x0 x4 x6 x11 x12 x20 x21 x22 H=>
  nilK x0 (fun v1=>asP v1 (fun b2 o3=>ld1 H b2 (o3+3) (fun v4=>idxK v4 x6 1 (fun b5 o6=>li H b5 o6 (fun v7=>((0:Int)≤v7)∧(B5 P N2 N4 x0 (u64.wrap (BitVec.ofInt 64 x4|||BitVec.ofInt 64 (u64.wrap (1*2^(min (Int.toNat v7) 64)))).toNat) x11 x12 x20 x21 x22 H))))))
abbrev k4:Sk:=[]
def B7 (P:PT) (N2:Y k1) (N4:Y k2):Y k4:=fun H=>
  P (bool false) H
def B8 (P:PT) (N2:Y k1) (N4:Y k2):Y k3:=fun x0 x4 x6 x11 x12 x20 x21 x22 H=>
  nilK x0 (fun v1=>asP v1 (fun b2 o3=>ld1 H b2 (o3+3) (fun v4=>idxK v4 x6 1 (fun b5 o6=>li H b5 o6 (fun v7=>A 144 [(int .u64 x4),(I v7)] H (fun v8 H9=>asB v8 (fun v10=>pif v10 (B7 P N2 N4 H9) (B6 P N2 N4 x0 x4 x6 x11 x12 x20 x21 x22 H9))))))))
def B9 (P:PT) (N2:Y k1) (N4:Y k2):Y k3:=fun x0 x4 x6 x11 x12 x20 x21 x22 H=>
  nilK x0 (fun v1=>asP v1 (fun b2 o3=>ld1 H b2 (o3+3) (fun v4=>idxK v4 x6 1 (fun b5 o6=>li H b5 o6 (fun v7=>pif ((v7:Int)==(-1)) (B5 P N2 N4 x0 x4 x11 x12 x20 x21 x22 H) (B8 P N2 N4 x0 x4 x6 x11 x12 x20 x21 x22 H))))))
def B10 (P:PT) (N2:Y k1) (N4:Y k2):Y k2:=fun x0 x4 x11 x12 x20 x21 x22 H=>
  idxK x20 x22 1 (fun b1 o2=>li H b1 o2 (fun v3=>B9 P N2 N4 x0 x4 v3 x11 x12 x20 x21 x22 H))
def B11 (P:PT) (N2:Y k1) (N4:Y k2):Y k2:=fun x0 x4 x11 x12 x20 x21 x22 H=>
  pif (decide ((x22:Int)<x21)) (B10 P N2 N4 x0 x4 x11 x12 x20 x21 x22 H) (B3 P N2 x0 x11 x12 H)
def L4 (P:PT) (N2:Y k1):Y k2:=fun x0 x4 x11 x12 x20 x21 x22 H=>
  ∃ (I:Y k2) (μ:NTy k2 (AHeap→Nat)),I x0 x4 x11 x12 x20 x21 x22 H∧∀ y0 y4 y11 y12 y20 y21 y22 G,I y0 y4 y11 y12 y20 y21 y22 G→B11 P N2 (fun z0 z4 z11 z12 z20 z21 z22 G'=>I z0 z4 z11 z12 z20 z21 z22 G'∧μ z0 z4 z11 z12 z20 z21 z22 G'<μ y0 y4 y11 y12 y20 y21 y22 G) y0 y4 y11 y12 y20 y21 y22 G
theorem l4 P N2:LQ k2 (L4 P N2) (B11 P N2):=fun ⟨_,_,_,_,_,_,_,_⟩ _ ⟨I,μ,h0,hI⟩=>⟨apT _ I,apT _ μ,h0,fun ⟨_,_,_,_,_,_,_,_⟩ _ h=>hI _ _ _ _ _ _ _ _  h⟩
abbrev k5:Sk:=[(0,.v),(3,J),(4,.i .u64),(11,J),(12,J)]
def B12 (P:PT) (N2:Y k1):Y k5:=fun x0 x3 x4 x11 x12 H=>
  nilK x0 (fun v1=>asP v1 (fun b2 o3=>li H b2 o3 (fun v4=>ld1 H b2 (o3+1) (fun v5=>A 112 [(agg ⟨[(I v4),v5]⟩),(I x3)] H (fun v6 H7=>lenK v6 (fun n9=>L4 P N2 x0 x4 x11 x12 v6 (n9:Int) 0 H7))))))
abbrev k6:Sk:=[(0,.v),(3,J),(11,J),(12,J)]
def B13 (P:PT) (N2:Y k1):Y k6:=fun x0 x3 x11 x12 H=>
  B12 P N2 x0 x3 0 x11 x12 H
def B14 (P:PT) (N2:Y k1):Y k1:=fun x0 x11 x12 H=>
  B13 P N2 x0 x12 x11 x12 H
def B15 (P:PT) (N2:Y k1):Y k1:=fun x0 x11 x12 H=>
  pif (decide ((x12:Int)<x11)) (B14 P N2 x0 x11 x12 H) (B1 P x0 H)
def L2 (P:PT):Y k1:=fun x0 x11 x12 H=>
  ∃ (I:Y k1) (μ:NTy k1 (AHeap→Nat)),I x0 x11 x12 H∧∀ y0 y11 y12 G,I y0 y11 y12 G→B15 P (fun z0 z11 z12 G'=>I z0 z11 z12 G'∧μ z0 z11 z12 G'<μ y0 y11 y12 G) y0 y11 y12 G
theorem l2 P:LQ k1 (L2 P) (B15 P):=fun ⟨_,_,_,_⟩ _ ⟨I,μ,h0,hI⟩=>⟨apT _ I,apT _ μ,h0,fun ⟨_,_,_,_⟩ _ h=>hI _ _ _ _  h⟩
def B16 (P:PT):Y k0:=fun x0 H=>
  nilK x0 (fun v1=>asP v1 (fun b2 o3=>li H b2 o3 (fun v4=>L2 P x0 v4 0 H)))
def B17 (P:PT):Y k0:=fun x0 H=>
  B16 P x0 H
def code:Code:=(.seq (R 0 2) (.seq (.seq (R 1 12) (.block 0 (.loop (.seq (R 2 104) (.seq (.cond (.tmp 13) .skip (.exit 0)) (.seq (.block 1 (.seq (R 3 1688) (.seq (R 4 3378) (.seq (R 5 6758) (.block 2 (.loop (.seq (R 6 54072) (.seq (.cond (.tmp 23) .skip (.exit 2)) (.seq (.block 3 (.seq (R 7 865176) (.seq (.seq (R 8 3460708) (.cond (.tmp 33) (.exit 3) .skip)) (.seq (.seq (R 9 6921420) (.cond (.tmp 42) (.seq (R 10 27685684) .ret) .skip)) (R 11 3460711))))) (R 12 216295)))))))))) (R 13 423))))))) (.seq (R 14 14) .ret)))
theorem body:Tryz.f128.body=some code:=by kernel_rfl
theorem main P:Z 57 k0 (B17 P) code (ret P):=
  (r_seq (b (E k0 (B16 P))) (r_seq (r_seq (b (E k1 (L2 P))) (r_block (rL (l2 P) (fun N2=>(r_seq (b (cnd 13 (E k1 (B14 P N2)) (E k0 (B1 P)))) (r_seq (r_cond rfl r_skip (r_exit (fun _ _ h=>h))) (r_seq (r_block (r_seq (b (E k6 (B13 P N2))) (r_seq (b (E k5 (B12 P N2))) (r_seq (b (E k2 (L4 P N2))) (r_block (rL (l4 P N2) (fun N4=>(r_seq (b (cnd 23 (E k2 (B10 P N2 N4)) (E k1 (B3 P N2)))) (r_seq (r_cond rfl r_skip (r_exit (fun _ _ h=>h))) (r_seq (r_block (r_seq (b (E k3 (B9 P N2 N4))) (r_seq (r_seq (b (cnd 33 (E k2 (B5 P N2 N4)) (E k3 (B8 P N2 N4)))) (r_cond rfl (r_exit (fun _ _ h=>h)) r_skip)) (r_seq (r_seq (b (cnd 42 (E k4 (B7 P N2 N4)) (E k3 (B6 P N2 N4)))) (r_cond rfl (r_seq (b (ret P)) r_ret) r_skip)) (b (E k2 (B5 P N2 N4))))))) (b (E k2 N4)))))))))))) (b (E k1 N2))))))))) (r_seq (b (ret P)) r_ret)))
theorem ac (P:PT) (x0:Value) (H:AHeap) (h:B17 P x0 H):A 128 [x0] H P:=
  r_fn T0_ok (c:=code) (n:=57) Tryz.func128 body (by kernel_rfl) (main P) (En_mk (x0,()) (by kernel_rfl) ⟨by kernel_rfl,trivial⟩ h)

end F128
namespace F129
abbrev E:=En 61
def O (k:Nat):=ob Tryz.f129 (pth k)
abbrev R (i k:Nat):Code:=.region i ⟨O k⟩ false
def ret (P:PT):EP:=retE T0 61 Tryz.f129 P
abbrev k0:Sk:=[]
def B1 (P:PT):Y k0:=fun H=>
  P (I 0) H
abbrev k1:Sk:=[(0,J),(1,.v),(5,J)]
def B3 (P:PT) (N2:Y k1):Y k1:=fun x0 x1 x5 H=>
  N2 x0 x1 (i64.wrap (x5+1)) H
def B4 (P:PT) (N2:Y k1):Y k0:=fun H=>
  P (I 2) H
def o5:=O 1864
def B5 (P:PT) (N2:Y k1):Y k1:=fun x0 x1 x5 H=>
  idxK x1 x5 2 (fun b1 o2=>li H b1 o2 (fun v3=>A 91 [(I v3),(I 0),(I (i64.wrap (x0-1)))] H (fun v4 H5=>asB v4 (fun v6=>pif (!v6) (B4 P N2 H5) (idxK x1 x5 2 (fun b7 o8=>li H5 b7 (o8+1) (fun v9=>A 91 [(I v9),(I 0),(I (i64.wrap (x0-1)))] H5 (fun v10 H11=>asB v10 (fun v12=>pif (!v12) (B4 P N2 H11) (idxK x1 x5 2 (fun b13 o14=>li H11 b13 o14 (fun v15=>idxK x1 x5 2 (fun b16 o17=>li H11 b16 (o17+1) (fun v18=>pif ((v15:Int)==v18) (B4 P N2 H11) (B3 P N2 x0 x1 x5 H11)))))))))))))))
theorem q5 (P:PT) (N2:Y k1):QD Tryz.prog T0 61 o5 [(0,false),(1,false),(2,false),(3,false),(4,false),(5,false),(6,false),(7,false),(8,false),(9,false),(10,false),(11,false),(12,false),(13,false),(14,false),(15,false),(16,false),(17,false),(18,false),(19,false),(20,false),(21,false),(22,false),(23,false),(24,false),(25,false),(26,false),(27,false),(28,false),(29,false),(30,false),(31,false),(32,false)] (cnd 60 (En 61 k0 (B4 P N2)) (En 61 k1 (B3 P N2))) k1 (B5 P N2):=fun _ _ _ _ _  => by kernel_rfl
def B6 (P:PT) (N2:Y k1):Y k1:=fun x0 x1 x5 H=>
  lenK x1 (fun n1=>pif (decide ((x5:Int)<(n1:Int))) (B5 P N2 x0 x1 x5 H) (B1 P H))
def L2 (P:PT):Y k1:=fun x0 x1 x5 H=>
  ∃ (I:Y k1) (μ:NTy k1 (AHeap→Nat)),I x0 x1 x5 H∧∀ y0 y1 y5 G,I y0 y1 y5 G→B6 P (fun z0 z1 z5 G'=>I z0 z1 z5 G'∧μ z0 z1 z5 G'<μ y0 y1 y5 G) y0 y1 y5 G
theorem l2 P:LQ k1 (L2 P) (B6 P):=fun ⟨_,_,_,_⟩ _ ⟨I,μ,h0,hI⟩=>⟨apT _ I,apT _ μ,h0,fun ⟨_,_,_,_⟩ _ h=>hI _ _ _ _  h⟩
abbrev k2:Sk:=[(0,J),(1,.v)]
def B7 (P:PT):Y k2:=fun x0 x1 H=>
  L2 P x0 x1 0 H
def o8:=O 52
def B8 (P:PT):Y k0:=fun H=>
  P (I 2) H
def B9 (P:PT):Y k2:=fun x0 x1 H=>
  A 91 [(I x0),(I 2),(I 20)] H (fun v1 H2=>asB v1 (fun v3=>pif (!v3) (B8 P H2) (pif ((Int.tmod x0 2:Int) != 0) (B8 P H2) (lenK x1 (fun n4=>pif (((n4:Int):Int) != (i64.wrap (Int.tdiv (i64.wrap (3*x0)) 2))) (B8 P H2) (B7 P x0 x1 H2))))))
def B10 (P:PT):Y k2:=fun x0 x1 H=>
  B9 P x0 x1 H
def code:Code:=(.seq (R 0 2) (.seq (.seq (R 1 12) (.cond (.tmp 21) (.seq (R 2 52) .ret) .skip)) (.seq (.seq (R 3 28) (.block 0 (.loop (.seq (.seq (R 4 464) (.cond (.tmp 25) .skip (.exit 0))) (.seq (.block 1 (.seq (.region 6 ⟨o5⟩ true) (.cond (.tmp 60) (.seq (R 7 7460) .ret) .skip))) (R 5 467)))))) (.seq (R 8 30) .ret))))
theorem body:Tryz.f129.body=some code:=by kernel_rfl
theorem main P:Z 61 k2 (B10 P) code (ret P):=
  (r_seq (b (E k2 (B9 P))) (r_seq (r_seq (b (cnd 21 (E k0 (B8 P)) (E k2 (B7 P)))) (r_cond rfl (r_seq (b (ret P)) r_ret) r_skip)) (r_seq (r_seq (b (E k1 (L2 P))) (r_block (rL (l2 P) (fun N2=>(r_seq (r_seq (b (cnd 25 (E k1 (B5 P N2)) (E k0 (B1 P)))) (r_cond rfl r_skip (r_exit (fun _ _ h=>h)))) (r_seq (r_block (r_seq (rD T0_ok mixed [(0,false),(1,false),(2,false),(3,false),(4,false),(5,false),(6,false),(7,false),(8,false),(9,false),(10,false),(11,false),(12,false),(13,false),(14,false),(15,false),(16,false),(17,false),(18,false),(19,false),(20,false),(21,false),(22,false),(23,false),(24,false),(25,false),(26,false),(27,false),(28,false),(29,false),(30,false),(31,false),(32,false)] (by kernel_rfl) (q5 P N2)) (r_cond rfl (r_seq (b (ret P)) r_ret) r_skip))) (b (E k1 N2)))))))) (r_seq (b (ret P)) r_ret))))
theorem ac (P:PT) (x0:Int) (x1:Value) (H:AHeap) (h:B10 P x0 x1 H):A 129 [(I x0),x1] H P:=
  r_fn T0_ok (c:=code) (n:=61) Tryz.func129 body (by kernel_rfl) (main P) (En_mk (x0,x1,()) (by kernel_rfl) ⟨by kernel_rfl,by kernel_rfl,trivial⟩ h)

end F129
namespace F130
abbrev E:=En 46
def O (k:Nat):=ob Tryz.f130 (pth k)
abbrev R (i k:Nat):Code:=.region i ⟨O k⟩ false
def ret (P:PT):EP:=retE T0 46 Tryz.f130 P
abbrev k0:Sk:=[]
def B1 (P:PT):Y k0:=fun H=>
  P (bool true) H
abbrev k1:Sk:=[(0,J),(5,.v),(7,J)]
def B3 (P:PT) (N2:Y k1):Y k1:=fun x0 x5 x7 H=>
  N2 x0 x5 (i64.wrap (x7+1)) H
def B4 (P:PT) (N2:Y k1):Y k0:=fun H=>
  P (bool false) H
def o5:=O 3912
def B5 (P:PT) (N2:Y k1):Y k1:=fun x0 x5 x7 H=>
  idxK x5 x7 1 (fun b1 o2=>li H b1 o2 (fun v3=>pif ((v3:Int) != 3) (B4 P N2 H) (B3 P N2 x0 x5 x7 H)))
def B6 (P:PT) (N2:Y k1):Y k1:=fun x0 x5 x7 H=>
  pif (decide ((x7:Int)<x0)) (B5 P N2 x0 x5 x7 H) (B1 P H)
def L2 (P:PT):Y k1:=fun x0 x5 x7 H=>
  ∃ (I:Y k1) (μ:NTy k1 (AHeap→Nat)),I x0 x5 x7 H∧∀ y0 y5 y7 G,I y0 y5 y7 G→B6 P (fun z0 z5 z7 G'=>I z0 z5 z7 G'∧μ z0 z5 z7 G'<μ y0 y5 y7 G) y0 y5 y7 G
theorem l2 P:LQ k1 (L2 P) (B6 P):=fun ⟨_,_,_,_⟩ _ ⟨I,μ,h0,hI⟩=>⟨apT _ I,apT _ μ,h0,fun ⟨_,_,_,_⟩ _ h=>hI _ _ _ _  h⟩
abbrev k2:Sk:=[(0,J),(5,.v)]
def B7 (P:PT):Y k2:=fun x0 x5 H=>
  L2 P x0 x5 0 H
abbrev k3:Sk:=[(0,J),(1,.v),(5,.v),(6,J)]
def B9 (P:PT) (N8:Y k3):Y k3:=fun x0 x1 x5 x6 H=>
  N8 x0 x1 x5 (i64.wrap (x6+1)) H
def B10 (P:PT) (N8:Y k3):Y k3:=fun x0 x1 x5 x6 H=>
  idxK x1 x6 2 (fun b1 o2=>li H b1 (o2+1) (fun v3=>idxK x5 v3 1 (fun b4 o5=>li H b4 o5 (fun v6=>idxK x5 v3 1 (fun b7 o8=>stK H b7 o8 [(I (i64.wrap (v6+1)))] (fun H9=>B9 P N8 x0 x1 x5 x6 H9))))))
def B11 (P:PT) (N8:Y k3):Y k3:=fun x0 x1 x5 x6 H=>
  idxK x1 x6 2 (fun b1 o2=>li H b1 o2 (fun v3=>idxK x5 v3 1 (fun b4 o5=>li H b4 o5 (fun v6=>idxK x5 v3 1 (fun b7 o8=>stK H b7 o8 [(I (i64.wrap (v6+1)))] (fun H9=>B10 P N8 x0 x1 x5 x6 H9))))))
def B12 (P:PT) (N8:Y k3):Y k3:=fun x0 x1 x5 x6 H=>
  lenK x1 (fun n1=>pif (decide ((x6:Int)<(n1:Int))) (B11 P N8 x0 x1 x5 x6 H) (B7 P x0 x5 H))
def L8 (P:PT):Y k3:=fun x0 x1 x5 x6 H=>
  ∃ (I:Y k3) (μ:NTy k3 (AHeap→Nat)),I x0 x1 x5 x6 H∧∀ y0 y1 y5 y6 G,I y0 y1 y5 y6 G→B12 P (fun z0 z1 z5 z6 G'=>I z0 z1 z5 z6 G'∧μ z0 z1 z5 z6 G'<μ y0 y1 y5 y6 G) y0 y1 y5 y6 G
theorem l8 P:LQ k3 (L8 P) (B12 P):=fun ⟨_,_,_,_,_⟩ _ ⟨I,μ,h0,hI⟩=>⟨apT _ I,apT _ μ,h0,fun ⟨_,_,_,_,_⟩ _ h=>hI _ _ _ _ _  h⟩
abbrev k4:Sk:=[(0,J),(1,.v),(5,.v)]
def B13 (P:PT):Y k4:=fun x0 x1 x5 H=>
  L8 P x0 x1 x5 0 H
abbrev k5:Sk:=[(0,J),(1,.v)]
def B14 (P:PT):Y k5:=fun x0 x1 H=>
  mkR H 8 2 [(I 0)] x0 x0 (fun v2 H1=>B13 P x0 x1 v2 H1)
def B15 (P:PT):Y k5:=fun x0 x1 H=>
  B14 P x0 x1 H
def code:Code:=(.seq (R 0 2) (.seq (R 1 6) (.seq (.seq (R 2 28) (.block 0 (.loop (.seq (.seq (R 3 464) (.cond (.tmp 13) .skip (.exit 0))) (.seq (.block 1 (.seq (R 5 1864) (R 6 1865))) (R 4 467)))))) (.seq (.seq (R 7 60) (.block 2 (.loop (.seq (.seq (R 8 976) (.cond (.tmp 38) .skip (.exit 2))) (.seq (.block 3 (.seq (R 10 3912) (.cond (.tmp 45) (.seq (R 11 15652) .ret) .skip))) (R 9 979)))))) (.seq (R 12 62) .ret)))))
theorem body:Tryz.f130.body=some code:=by kernel_rfl
theorem main P:Z 46 k5 (B15 P) code (ret P):=
  (r_seq (b (E k5 (B14 P))) (r_seq (b (E k4 (B13 P))) (r_seq (r_seq (b (E k3 (L8 P))) (r_block (rL (l8 P) (fun N8=>(r_seq (r_seq (b (cnd 13 (E k3 (B11 P N8)) (E k2 (B7 P)))) (r_cond rfl r_skip (r_exit (fun _ _ h=>h)))) (r_seq (r_block (r_seq (b (E k3 (B10 P N8))) (b (E k3 (B9 P N8))))) (b (E k3 N8)))))))) (r_seq (r_seq (b (E k1 (L2 P))) (r_block (rL (l2 P) (fun N2=>(r_seq (r_seq (b (cnd 38 (E k1 (B5 P N2)) (E k0 (B1 P)))) (r_cond rfl r_skip (r_exit (fun _ _ h=>h)))) (r_seq (r_block (r_seq (b (cnd 45 (E k0 (B4 P N2)) (E k1 (B3 P N2)))) (r_cond rfl (r_seq (b (ret P)) r_ret) r_skip))) (b (E k1 N2)))))))) (r_seq (b (ret P)) r_ret)))))
theorem ac (P:PT) (x0:Int) (x1:Value) (H:AHeap) (h:B15 P x0 x1 H):A 130 [(I x0),x1] H P:=
  r_fn T0_ok (c:=code) (n:=46) Tryz.func130 body (by kernel_rfl) (main P) (En_mk (x0,x1,()) (by kernel_rfl) ⟨by kernel_rfl,by kernel_rfl,trivial⟩ h)

end F130
namespace F131
abbrev E:=En 24
def O (k:Nat):=ob Tryz.f131 (pth k)
abbrev R (i k:Nat):Code:=.region i ⟨O k⟩ false
def ret (P:PT):EP:=retE T0 24 Tryz.f131 P
abbrev k0:Sk:=[(2,.x),(3,.x)]
def B1 (P:PT):Y k0:=fun x2 x3 H=>
  li H x2 0 (fun v1=>li H x3 0 (fun v2=>pif (decide ((v1:Int)<v2)) (P (bool true) H) (li H x2 0 (fun v3=>li H x3 0 (fun v4=>pif ((v3:Int)==v4) (li H x2 1 (fun v5=>li H x3 1 (fun v6=>P (bool (decide ((v5:Int)<v6))) H))) (P (bool false) H))))))
abbrev k1:Sk:=[(0,.g [.i,.i]),(1,.g [.i,.i])]
def B2 (P:PT):Y k1:=fun x0a x0b x1a x1b H=>
  newK H [(I x0a),(I x0b)] 28 (fun b1 H2=>newK H2 [(I x1a),(I x1b)] 28 (fun b3 H4=>B1 P b1 b3 H4))
def code:Code:=(.seq (R 0 2) (.seq (R 1 6) .ret))
theorem body:Tryz.f131.body=some code:=by kernel_rfl
theorem main P:Z 24 k1 (B2 P) code (ret P):=
  (r_seq (b (E k0 (B1 P))) (r_seq (b (ret P)) r_ret))
theorem ac (P:PT) (x0a x0b x1a x1b:Int) (H:AHeap) (h:B2 P x0a x0b x1a x1b H):A 131 [(agg ⟨[(I x0a),(I x0b)]⟩),(agg ⟨[(I x1a),(I x1b)]⟩)] H P:=
  r_fn T0_ok (c:=code) (n:=24) Tryz.func131 body (by kernel_rfl) (main P) (En_mk (x0a,x0b,x1a,x1b,()) (by kernel_rfl) ⟨by kernel_rfl,by kernel_rfl,trivial⟩ h)

end F131
namespace F132
abbrev E:=En 38
def O (k:Nat):=ob Tryz.f132 (pth k)
abbrev R (i k:Nat):Code:=.region i ⟨O k⟩ false
def ret (P:PT):EP:=retE T0 38 Tryz.f132 P
abbrev k0:Sk:=[(5,.v)]
def B1 (P:PT):Y k0:=fun x5 H=>
  P x5 H
abbrev k1:Sk:=[(1,J),(2,.x),(5,.v),(6,J)]
def o3:=O 467
def B3 (P:PT) (N2:Y k1):Y k1:=fun x1 x2 x5 x6 H=>
  N2 x1 x2 x5 (i64.wrap (x6+1)) H
def B4 (P:PT) (N2:Y k1):Y k1:=fun x1 x2 x5 x6 H=>
  newK H [(I x6)] 2 (fun b1 H2=>apK T0 2 H2 x5 (slice (some ⟨b1,0,none⟩) 1 (1+1)) (fun v3 H4=>B3 P N2 x1 x2 v3 x6 H4))
def B5 (P:PT) (N2:Y k1):Y k1:=fun x1 x2 x5 x6 H=>
  ld1 H x2 1 (fun v1=>idxK v1 x6 2 (fun b2 o3=>li H b2 o3 (fun v4=>pif ((v4:Int)==x1) (B4 P N2 x1 x2 x5 x6 H) (ld1 H x2 1 (fun v5=>idxK v5 x6 2 (fun b6 o7=>li H b6 (o7+1) (fun v8=>pif ((v8:Int)==x1) (B4 P N2 x1 x2 x5 x6 H) (B3 P N2 x1 x2 x5 x6 H))))))))
def B6 (P:PT) (N2:Y k1):Y k1:=fun x1 x2 x5 x6 H=>
  ld1 H x2 1 (fun v1=>lenK v1 (fun n2=>pif (decide ((x6:Int)<(n2:Int))) (B5 P N2 x1 x2 x5 x6 H) (B1 P x5 H)))
def L2 (P:PT):Y k1:=fun x1 x2 x5 x6 H=>
  ∃ (I:Y k1) (μ:NTy k1 (AHeap→Nat)),I x1 x2 x5 x6 H∧∀ y1 y2 y5 y6 G,I y1 y2 y5 y6 G→B6 P (fun z1 z2 z5 z6 G'=>I z1 z2 z5 z6 G'∧μ z1 z2 z5 z6 G'<μ y1 y2 y5 y6 G) y1 y2 y5 y6 G
theorem l2 P:LQ k1 (L2 P) (B6 P):=fun ⟨_,_,_,_,_⟩ _ ⟨I,μ,h0,hI⟩=>⟨apT _ I,apT _ μ,h0,fun ⟨_,_,_,_,_⟩ _ h=>hI _ _ _ _ _  h⟩
abbrev k2:Sk:=[(1,J),(2,.x),(5,.v)]
def o7:=O 28
def B7 (P:PT):Y k2:=fun x1 x2 x5 H=>
  L2 P x1 x2 x5 0 H
abbrev k3:Sk:=[(1,J),(2,.x)]
def B8 (P:PT):Y k3:=fun x1 x2 H=>
  newK H [] 2 (fun b1 H2=>B7 P x1 x2 (slice (some ⟨b1,0,none⟩) 0 (0+1)) H2)
abbrev k4:Sk:=[(0,.g [.i,.v]),(1,J)]
def B9 (P:PT):Y k4:=fun x0a x0b x1 H=>
  newK H [(I x0a),x0b] 31 (fun b1 H2=>B8 P x1 b1 H2)
def code:Code:=(.seq (R 0 2) (.seq (R 1 6) (.seq (.seq (R 2 28) (.block 0 (.loop (.seq (.seq (R 3 464) (.cond (.tmp 12) .skip (.exit 0))) (.seq (.block 1 (.seq (R 5 1864) (.cond (.tmp 32) (R 6 3730) .skip))) (R 4 467)))))) (.seq (R 7 30) .ret))))
theorem body:Tryz.f132.body=some code:=by kernel_rfl
theorem main P:Z 38 k4 (B9 P) code (ret P):=
  (r_seq (b (E k3 (B8 P))) (r_seq (b (E k2 (B7 P))) (r_seq (r_seq (b (E k1 (L2 P))) (r_block (rL (l2 P) (fun N2=>(r_seq (r_seq (b (cnd 12 (E k1 (B5 P N2)) (E k0 (B1 P)))) (r_cond rfl r_skip (r_exit (fun _ _ h=>h)))) (r_seq (r_block (r_seq (b (cnd 32 (E k1 (B4 P N2)) (E k1 (B3 P N2)))) (r_cond rfl (b (E k1 (B3 P N2))) r_skip))) (b (E k1 N2)))))))) (r_seq (b (ret P)) r_ret))))
theorem ac (P:PT) (x0a:Int) (x0b:Value) (x1:Int) (H:AHeap) (h:B9 P x0a x0b x1 H):A 132 [(agg ⟨[(I x0a),x0b]⟩),(I x1)] H P:=
  r_fn T0_ok (c:=code) (n:=38) Tryz.func132 body (by kernel_rfl) (main P) (En_mk (x0a,x0b,x1,()) (by kernel_rfl) ⟨by kernel_rfl,by kernel_rfl,trivial⟩ h)

end F132
namespace F133
abbrev E:=En 46
def O (k:Nat):=ob Tryz.f133 (pth k)
abbrev R (i k:Nat):Code:=.region i ⟨O k⟩ false
def ret (P:PT):EP:=retE T0 46 Tryz.f133 P
abbrev k0:Sk:=[]
def B1 (P:PT):Y k0:=fun H=>
  P (bool true) H
abbrev k1:Sk:=[(1,.v),(2,J),(3,J),(4,.x),(9,J)]
def B3 (P:PT) (N2:Y k1):Y k1:=fun x1 x2 x3 x4 x9 H=>
  N2 x1 x2 x3 x4 (i64.wrap (x9+1)) H
abbrev k2:Sk:=[(1,.v),(2,J),(3,J),(4,.x),(9,J),(10,.v),(11,J)]
def o5:=O 26931
def B5 (P:PT) (N2:Y k1) (N4:Y k2):Y k2:=fun x1 x2 x3 x4 x9 x10 x11 H=>
  N4 x1 x2 x3 x4 x9 x10 (i64.wrap (x11+1)) H
def B6 (P:PT) (N2:Y k1) (N4:Y k2):Y k0:=fun H=>
  P (bool false) H
def B7 (P:PT) (N2:Y k1) (N4:Y k2):Y k2:=fun x1 x2 x3 x4 x9 x10 x11 H=>
  idxK x10 x11 1 (fun b1 o2=>li H b1 o2 (fun v3=>pif (decide ((v3:Int)<x2)) (idxK x10 x11 1 (fun b4 o5=>li H b4 o5 (fun v6=>idxK x1 v6 1 (fun b7 o8=>li H b7 o8 (fun v9=>pif ((v9:Int)==x3) (B6 P N2 N4 H) (B5 P N2 N4 x1 x2 x3 x4 x9 x10 x11 H)))))) (B5 P N2 N4 x1 x2 x3 x4 x9 x10 x11 H)))
def o8:=O 26928
def B8 (P:PT) (N2:Y k1) (N4:Y k2):Y k2:=fun x1 x2 x3 x4 x9 x10 x11 H=>
  pif (decide ((x11:Int)<3)) (B7 P N2 N4 x1 x2 x3 x4 x9 x10 x11 H) (B3 P N2 x1 x2 x3 x4 x9 H)
def L4 (P:PT) (N2:Y k1):Y k2:=fun x1 x2 x3 x4 x9 x10 x11 H=>
  ∃ (I:Y k2) (μ:NTy k2 (AHeap→Nat)),I x1 x2 x3 x4 x9 x10 x11 H∧∀ y1 y2 y3 y4 y9 y10 y11 G,I y1 y2 y3 y4 y9 y10 y11 G→B8 P N2 (fun z1 z2 z3 z4 z9 z10 z11 G'=>I z1 z2 z3 z4 z9 z10 z11 G'∧μ z1 z2 z3 z4 z9 z10 z11 G'<μ y1 y2 y3 y4 y9 y10 y11 G) y1 y2 y3 y4 y9 y10 y11 G
theorem l4 P N2:LQ k2 (L4 P N2) (B8 P N2):=fun ⟨_,_,_,_,_,_,_,_⟩ _ ⟨I,μ,h0,hI⟩=>⟨apT _ I,apT _ μ,h0,fun ⟨_,_,_,_,_,_,_,_⟩ _ h=>hI _ _ _ _ _ _ _ _  h⟩
abbrev k3:Sk:=[(1,.v),(2,J),(3,J),(4,.x),(9,J),(10,.v)]
def B9 (P:PT) (N2:Y k1):Y k3:=fun x1 x2 x3 x4 x9 x10 H=>
  L4 P N2 x1 x2 x3 x4 x9 x10 0 H
def o10:=O 840
def B10 (P:PT) (N2:Y k1):Y k1:=fun x1 x2 x3 x4 x9 H=>
  li H x4 0 (fun v1=>ld1 H x4 1 (fun v2=>ld1 H x4 1 (fun v3=>idxK v3 x2 2 (fun b4 o5=>bndK x9 2 (li H b4 (o5+Int.toNat x9*1) (fun v6=>A 132 [(agg ⟨[(I v1),v2]⟩),(I v6)] H (fun v7 H8=>B9 P N2 x1 x2 x3 x4 x9 v7 H8)))))))
theorem q10 (P:PT) (N2:Y k1):QD Tryz.prog T0 46 o10 [(0,false),(1,false),(2,false),(3,false),(4,false),(5,false),(6,false),(7,false),(8,false),(9,false)] (En 46 k3 (B9 P N2)) k1 (B10 P N2):=fun _ _ _ _ _ _ _  => by kernel_rfl
def B11 (P:PT) (N2:Y k1):Y k1:=fun x1 x2 x3 x4 x9 H=>
  pif (decide ((x9:Int)<2)) (B10 P N2 x1 x2 x3 x4 x9 H) (B1 P H)
def L2 (P:PT):Y k1:=fun x1 x2 x3 x4 x9 H=>
  ∃ (I:Y k1) (μ:NTy k1 (AHeap→Nat)),I x1 x2 x3 x4 x9 H∧∀ y1 y2 y3 y4 y9 G,I y1 y2 y3 y4 y9 G→B11 P (fun z1 z2 z3 z4 z9 G'=>I z1 z2 z3 z4 z9 G'∧μ z1 z2 z3 z4 z9 G'<μ y1 y2 y3 y4 y9 G) y1 y2 y3 y4 y9 G
theorem l2 P:LQ k1 (L2 P) (B11 P):=fun ⟨_,_,_,_,_,_⟩ _ ⟨I,μ,h0,hI⟩=>⟨apT _ I,apT _ μ,h0,fun ⟨_,_,_,_,_,_⟩ _ h=>hI _ _ _ _ _ _  h⟩
abbrev k4:Sk:=[(1,.v),(2,J),(3,J),(4,.x)]
def B12 (P:PT):Y k4:=fun x1 x2 x3 x4 H=>
  L2 P x1 x2 x3 x4 0 H
abbrev k5:Sk:=[(0,.g [.i,.v]),(1,.v),(2,J),(3,J)]
def B13 (P:PT):Y k5:=fun x0a x0b x1 x2 x3 H=>
  newK H [(I x0a),x0b] 31 (fun b1 H2=>B12 P x1 x2 x3 b1 H2)
def code:Code:=(.seq (R 0 2) (.seq (.seq (R 1 12) (.block 0 (.loop (.seq (.seq (R 2 208) (.cond (.tmp 13) .skip (.exit 0))) (.seq (.block 1 (.seq (.region 4 ⟨o10⟩ true) (.seq (R 5 1682) (.block 2 (.loop (.seq (.seq (R 6 26928) (.cond (.tmp 26) .skip (.exit 2))) (.seq (.block 3 (.seq (R 8 107720) (.cond (.tmp 45) (.seq (R 9 430884) .ret) .skip))) (R 7 26931)))))))) (R 3 211)))))) (.seq (R 10 14) .ret)))
theorem body:Tryz.f133.body=some code:=by kernel_rfl
theorem main P:Z 46 k5 (B13 P) code (ret P):=
  (r_seq (b (E k4 (B12 P))) (r_seq (r_seq (b (E k1 (L2 P))) (r_block (rL (l2 P) (fun N2=>(r_seq (r_seq (b (cnd 13 (E k1 (B10 P N2)) (E k0 (B1 P)))) (r_cond rfl r_skip (r_exit (fun _ _ h=>h)))) (r_seq (r_block (r_seq (rD T0_ok mixed [(0,false),(1,false),(2,false),(3,false),(4,false),(5,false),(6,false),(7,false),(8,false),(9,false)] (by kernel_rfl) (q10 P N2)) (r_seq (b (E k2 (L4 P N2))) (r_block (rL (l4 P N2) (fun N4=>(r_seq (r_seq (b (cnd 26 (E k2 (B7 P N2 N4)) (E k1 (B3 P N2)))) (r_cond rfl r_skip (r_exit (fun _ _ h=>h)))) (r_seq (r_block (r_seq (b (cnd 45 (E k0 (B6 P N2 N4)) (E k2 (B5 P N2 N4)))) (r_cond rfl (r_seq (b (ret P)) r_ret) r_skip))) (b (E k2 N4)))))))))) (b (E k1 N2)))))))) (r_seq (b (ret P)) r_ret)))
theorem ac (P:PT) (x0a:Int) (x0b x1:Value) (x2 x3:Int) (H:AHeap) (h:B13 P x0a x0b x1 x2 x3 H):A 133 [(agg ⟨[(I x0a),x0b]⟩),x1,(I x2),(I x3)] H P:=
  r_fn T0_ok (c:=code) (n:=46) Tryz.func133 body (by kernel_rfl) (main P) (En_mk (x0a,x0b,x1,x2,x3,()) (by kernel_rfl) ⟨by kernel_rfl,by kernel_rfl,by kernel_rfl,by kernel_rfl,trivial⟩ h)

end F133
namespace F134
abbrev E:=En 21
def O (k:Nat):=ob Tryz.f134 (pth k)
abbrev R (i k:Nat):Code:=.region i ⟨O k⟩ false
def ret (P:PT):EP:=retE T0 21 Tryz.f134 P
abbrev k0:Sk:=[(2,.v)]
def B1 (P:PT):Y k0:=fun x2 H=>
  asP x2 (fun b1 o2=>li H b1 o2 (fun v3=>P (bool ((v3:Int)==0)) H))
abbrev k1:Sk:=[(0,.i .u64),(2,.v),(3,.v),(6,J)]
def o2:=O 54
def B2 (P:PT):Y k1:=fun x0 x2 x3 x6 H=>
  asP x3 (fun b1 o2=>stK H b1 o2 [(int .u64 x0)] (fun H3=>asP x2 (fun b4 o5=>stK H3 b4 o5 [(I x6)] (fun H6=>B1 P x2 H6))))
def B3 (P:PT):Y k1:=fun x0 x2 x3 x6 H=>
  asP x2 (fun b1 o2=>li H b1 o2 (fun v3=>pif ((v3:Int)==(-1)) (B2 P x0 x2 x3 x6 H) (asP x2 (fun b4 o5=>li H b4 o5 (fun v6=>pif (decide ((x6:Int)<v6)) (B2 P x0 x2 x3 x6 H) (B1 P x2 H))))))
abbrev k2:Sk:=[(0,.i .u64),(1,.v),(2,.v),(3,.v)]
def B4 (P:PT):Y k2:=fun x0 x1 x2 x3 H=>
  asP x1 (fun b1 o2=>li H b1 o2 (fun v3=>ld1 H b1 (o2+1) (fun v4=>A 135 [(agg ⟨[(I v3),v4]⟩),(int .u64 x0)] H (fun v5 H6=>asI .i64 v5 (fun v7=>B3 P x0 x2 x3 v7 H6)))))
def o5:=O 2
def B5 (P:PT):Y k2:=fun x0 x1 x2 x3 H=>
  B4 P x0 x1 x2 x3 H
def code:Code:=(.seq (R 0 2) (.seq (.seq (R 1 12) (.seq (R 2 26) (.cond (.tmp 16) (R 3 54) .skip))) (.seq (R 4 14) .ret)))
theorem body:Tryz.f134.body=some code:=by kernel_rfl
theorem main P:Z 21 k2 (B5 P) code (ret P):=
  (r_seq (b (E k2 (B4 P))) (r_seq (r_seq (b (E k1 (B3 P))) (r_seq (b (cnd 16 (E k1 (B2 P)) (E k0 (B1 P)))) (r_cond rfl (b (E k0 (B1 P))) r_skip))) (r_seq (b (ret P)) r_ret)))
theorem ac (P:PT) (x0:Int) (x1 x2 x3:Value) (H:AHeap) (h:B5 P x0 x1 x2 x3 H):A 134 [(int .u64 x0),x1,x2,x3] H P:=
  r_fn T0_ok (c:=code) (n:=21) Tryz.func134 body (by kernel_rfl) (main P) (En_mk (x0,x1,x2,x3,()) (by kernel_rfl) ⟨by kernel_rfl,by kernel_rfl,by kernel_rfl,by kernel_rfl,trivial⟩ h)

end F134
namespace F135
abbrev E:=En 23
def O (k:Nat):=ob Tryz.f135 (pth k)
abbrev R (i k:Nat):Code:=.region i ⟨O k⟩ false
def ret (P:PT):EP:=retE T0 23 Tryz.f135 P
abbrev k0:Sk:=[(5,J)]
def B1 (P:PT):Y k0:=fun x5 H=>
  P (I x5) H
abbrev k1:Sk:=[(5,J),(10,.v),(11,J),(12,J)]
def B3 (P:PT) (N2:Y k1):Y k1:=fun x5 x10 x11 x12 H=>
  N2 x5 x10 x11 (i64.wrap (x12+1)) H
abbrev k2:Sk:=[(5,J),(7,.i .u64),(10,.v),(11,J),(12,J)]
def B4 (P:PT) (N2:Y k1):Y k2:=fun x5 x7 x10 x11 x12 H=>
  A 74 [(int .u64 x7)] H (fun v1 H2=>asI .i64 v1 (fun v3=>B3 P N2 (i64.wrap (x5+(Int.tmod v3 2))) x10 x11 x12 H2))
def B5 (P:PT) (N2:Y k1):Y k1:=fun x5 x10 x11 x12 H=>
  idxK x10 x12 1 (fun b1 o2=>ldI .u64 H b1 o2 (fun v3=>B4 P N2 x5 v3 x10 x11 x12 H))
def B6 (P:PT) (N2:Y k1):Y k1:=fun x5 x10 x11 x12 H=>
  pif (decide ((x12:Int)<x11)) (B5 P N2 x5 x10 x11 x12 H) (B1 P x5 H)
def L2 (P:PT):Y k1:=fun x5 x10 x11 x12 H=>
  ∃ (I:Y k1) (μ:NTy k1 (AHeap→Nat)),I x5 x10 x11 x12 H∧∀ y5 y10 y11 y12 G,I y5 y10 y11 y12 G→B6 P (fun z5 z10 z11 z12 G'=>I z5 z10 z11 z12 G'∧μ z5 z10 z11 z12 G'<μ y5 y10 y11 y12 G) y5 y10 y11 y12 G
theorem l2 P:LQ k1 (L2 P) (B6 P):=fun ⟨_,_,_,_,_⟩ _ ⟨I,μ,h0,hI⟩=>⟨apT _ I,apT _ μ,h0,fun ⟨_,_,_,_,_⟩ _ h=>hI _ _ _ _ _  h⟩
abbrev k3:Sk:=[(1,.i .u64),(2,.x),(5,J)]
def B7 (P:PT):Y k3:=fun x1 x2 x5 H=>
  li H x2 0 (fun v1=>ld1 H x2 1 (fun v2=>A 102 [(agg ⟨[(I v1),v2]⟩),(int .u64 x1)] H (fun v3 H4=>lenK v3 (fun n6=>L2 P x5 v3 (n6:Int) 0 H4))))
abbrev k4:Sk:=[(1,.i .u64),(2,.x)]
def B8 (P:PT):Y k4:=fun x1 x2 H=>
  B7 P x1 x2 0 H
abbrev k5:Sk:=[(0,.g [.i,.v]),(1,.i .u64)]
def B9 (P:PT):Y k5:=fun x0a x0b x1 H=>
  newK H [(I x0a),x0b] 31 (fun b1 H2=>B8 P x1 b1 H2)
def code:Code:=(.seq (R 0 2) (.seq (R 1 6) (.seq (.seq (R 2 28) (.block 0 (.loop (.seq (R 3 232) (.seq (.cond (.tmp 13) .skip (.exit 0)) (.seq (.block 1 (.seq (R 4 3736) (R 5 3737))) (R 6 935))))))) (.seq (R 7 30) .ret))))
theorem body:Tryz.f135.body=some code:=by kernel_rfl
theorem main P:Z 23 k5 (B9 P) code (ret P):=
  (r_seq (b (E k4 (B8 P))) (r_seq (b (E k3 (B7 P))) (r_seq (r_seq (b (E k1 (L2 P))) (r_block (rL (l2 P) (fun N2=>(r_seq (b (cnd 13 (E k1 (B5 P N2)) (E k0 (B1 P)))) (r_seq (r_cond rfl r_skip (r_exit (fun _ _ h=>h))) (r_seq (r_block (r_seq (b (E k2 (B4 P N2))) (b (E k1 (B3 P N2))))) (b (E k1 N2))))))))) (r_seq (b (ret P)) r_ret))))
theorem ac (P:PT) (x0a:Int) (x0b:Value) (x1:Int) (H:AHeap) (h:B9 P x0a x0b x1 H):A 135 [(agg ⟨[(I x0a),x0b]⟩),(int .u64 x1)] H P:=
  r_fn T0_ok (c:=code) (n:=23) Tryz.func135 body (by kernel_rfl) (main P) (En_mk (x0a,x0b,x1,()) (by kernel_rfl) ⟨by kernel_rfl,by kernel_rfl,trivial⟩ h)

end F135
namespace F136
abbrev E:=En 12
def O (k:Nat):=ob Tryz.f136 (pth k)
abbrev R (i k:Nat):Code:=.region i ⟨O k⟩ false
def ret (P:PT):EP:=retE T0 12 Tryz.f136 P
abbrev k0:Sk:=[(1,J),(7,.x)]
def B1 (P:PT):Y k0:=fun x1 x7 H=>
  ld1 H x7 0 (fun v1=>callV Tryz.prog T0 v1 [(int .u64 0),(I 0),(I x1)] H (fun v2 H3=>asB v2 (fun v4=>P (bool v4) H3)))
abbrev k1:Sk:=[(1,J),(3,.x),(5,.x),(7,.x)]
def B2 (P:PT):Y k1:=fun x1 x3 x5 x7 H=>
  stK H x7 0 [(func (.func 180) ⟨[]⟩ ⟨[(pointer (some ⟨x5,0,none⟩)),(pointer (some ⟨x3,0,none⟩)),(pointer (some ⟨x7,0,none⟩))]⟩)] (fun H1=>B1 P x1 x7 H1)
abbrev k2:Sk:=[(1,J),(3,.x),(5,.x)]
def B3 (P:PT):Y k2:=fun x1 x3 x5 H=>
  newK H [Value.nilFunc] 161 (fun b1 H2=>B2 P x1 x3 x5 b1 H2)
abbrev k3:Sk:=[(0,J),(1,J),(2,.v)]
def B4 (P:PT):Y k3:=fun x0 x1 x2 H=>
  newK H [(I x0)] 2 (fun b1 H2=>pif (Value.oneCell' x2) (newK H2 [x2] 119 (fun b3 H4=>B3 P x1 b1 b3 H4)) False)
def code:Code:=(.seq (R 0 2) (.seq (R 1 6) (.seq (R 2 14) (.seq (R 3 30) .ret))))
theorem body:Tryz.f136.body=some code:=by kernel_rfl
theorem main P:Z 12 k3 (B4 P) code (ret P):=
  (r_seq (b (E k2 (B3 P))) (r_seq (b (E k1 (B2 P))) (r_seq (b (E k0 (B1 P))) (r_seq (b (ret P)) r_ret))))
theorem ac (P:PT) (x0 x1:Int) (x2:Value) (H:AHeap) (h:B4 P x0 x1 x2 H):A 136 [(I x0),(I x1),x2] H P:=
  r_fn T0_ok (c:=code) (n:=12) Tryz.func136 body (by kernel_rfl) (main P) (En_mk (x0,x1,x2,()) (by kernel_rfl) ⟨by kernel_rfl,by kernel_rfl,by kernel_rfl,trivial⟩ h)

end F136
namespace F137
abbrev E:=En 9
def O (k:Nat):=ob Tryz.f137 (pth k)
abbrev R (i k:Nat):Code:=.region i ⟨O k⟩ false
def ret (P:PT):EP:=retE T0 9 Tryz.f137 P
abbrev k0:Sk:=[(0,.i .u64),(2,.v)]
def B1 (P:PT):Y k0:=fun x0 x2 H=>
  asP x2 (fun b1 o2=>li H b1 o2 (fun v3=>ld1 H b1 (o2+1) (fun v4=>A 138 [(agg ⟨[(I v3),v4]⟩),(int .u64 x0)] H (fun v5 H6=>asB v5 (fun v7=>P (bool v7) H6)))))
abbrev k1:Sk:=[(0,.i .u64),(1,.v),(2,.v)]
def o2:=O 6
def B2 (P:PT):Y k1:=fun x0 x1 x2 H=>
  asP x1 (fun b1 o2=>stK H b1 o2 [(int .u64 x0)] (fun H3=>B1 P x0 x2 H3))
def B3 (P:PT):Y k1:=fun x0 x1 x2 H=>
  B2 P x0 x1 x2 H
def code:Code:=(.seq (R 0 2) (.seq (R 1 6) (.seq (R 2 14) .ret)))
theorem body:Tryz.f137.body=some code:=by kernel_rfl
theorem main P:Z 9 k1 (B3 P) code (ret P):=
  (r_seq (b (E k1 (B2 P))) (r_seq (b (E k0 (B1 P))) (r_seq (b (ret P)) r_ret)))
theorem ac (P:PT) (x0:Int) (x1 x2:Value) (H:AHeap) (h:B3 P x0 x1 x2 H):A 137 [(int .u64 x0),x1,x2] H P:=
  r_fn T0_ok (c:=code) (n:=9) Tryz.func137 body (by kernel_rfl) (main P) (En_mk (x0,x1,x2,()) (by kernel_rfl) ⟨by kernel_rfl,by kernel_rfl,by kernel_rfl,trivial⟩ h)

end F137
namespace F138
abbrev E:=En 15
def O (k:Nat):=ob Tryz.f138 (pth k)
abbrev R (i k:Nat):Code:=.region i ⟨O k⟩ false
def ret (P:PT):EP:=retE T0 15 Tryz.f138 P
abbrev k0:Sk:=[(2,.x),(5,.v)]
def B1 (P:PT):Y k0:=fun x2 x5 H=>
  li H x2 0 (fun v1=>ld1 H x2 1 (fun v2=>A 126 [(agg ⟨[(I v1),v2]⟩),x5,(bool false),(func (.func 181) ⟨[]⟩ ⟨[]⟩)] H (fun v3 H4=>A 128 [v3] H4 (fun v6 H7=>asB v6 (fun v8=>P (bool v8) H7)))))
abbrev k1:Sk:=[(1,.i .u64),(2,.x)]
def B2 (P:PT):Y k1:=fun x1 x2 H=>
  li H x2 0 (fun v1=>ld1 H x2 1 (fun v2=>A 108 [(agg ⟨[(I v1),v2]⟩)] H (fun v3 H4=>asI .u64 v3 (fun v5=>A 80 [(int .u64 (u64.wrap (BitVec.ofInt 64 v5&&&~~~(BitVec.ofInt 64 x1)).toNat))] H4 (fun v6 H7=>B1 P x2 v6 H7)))))
abbrev k2:Sk:=[(0,.g [.i,.v]),(1,.i .u64)]
def B3 (P:PT):Y k2:=fun x0a x0b x1 H=>
  newK H [(I x0a),x0b] 31 (fun b1 H2=>B2 P x1 b1 H2)
def code:Code:=(.seq (R 0 2) (.seq (R 1 6) (.seq (R 2 14) .ret)))
theorem body:Tryz.f138.body=some code:=by kernel_rfl
theorem main P:Z 15 k2 (B3 P) code (ret P):=
  (r_seq (b (E k1 (B2 P))) (r_seq (b (E k0 (B1 P))) (r_seq (b (ret P)) r_ret)))
theorem ac (P:PT) (x0a:Int) (x0b:Value) (x1:Int) (H:AHeap) (h:B3 P x0a x0b x1 H):A 138 [(agg ⟨[(I x0a),x0b]⟩),(int .u64 x1)] H P:=
  r_fn T0_ok (c:=code) (n:=15) Tryz.func138 body (by kernel_rfl) (main P) (En_mk (x0a,x0b,x1,()) (by kernel_rfl) ⟨by kernel_rfl,by kernel_rfl,trivial⟩ h)

end F138
namespace F139
abbrev E:=En 35
def O (k:Nat):=ob Tryz.f139 (pth k)
abbrev R (i k:Nat):Code:=.region i ⟨O k⟩ false
def ret (P:PT):EP:=retE T0 35 Tryz.f139 P
abbrev k0:Sk:=[(0,.i .u64)]
def B1 (P:PT):Y k0:=fun x0 H=>
  P (I (i64.wrap (BitVec.ofInt 64 (i64.wrap x0)&&&BitVec.ofInt 64 127).toNat)) H
def B2 (P:PT):Y k0:=fun x0 H=>
  ((0:Int)≤32)∧(B1 P (u64.wrap (x0+(Int.fdiv x0 (2^(min (Int.toNat 32) 64))))) H)
def B3 (P:PT):Y k0:=fun x0 H=>
  ((0:Int)≤16)∧(B2 P (u64.wrap (x0+(Int.fdiv x0 (2^(min (Int.toNat 16) 64))))) H)
def B4 (P:PT):Y k0:=fun x0 H=>
  ((0:Int)≤8)∧(B3 P (u64.wrap (x0+(Int.fdiv x0 (2^(min (Int.toNat 8) 64))))) H)
def B5 (P:PT):Y k0:=fun x0 H=>
  ((0:Int)≤4)∧(B4 P (u64.wrap (BitVec.ofInt 64 (u64.wrap ((Int.fdiv x0 (2^(min (Int.toNat 4) 64)))+x0))&&&BitVec.ofInt 64 1085102592571150095).toNat) H)
def B6 (P:PT):Y k0:=fun x0 H=>
  ((0:Int)≤2)∧(B5 P (u64.wrap ((u64.wrap (BitVec.ofInt 64 (Int.fdiv x0 (2^(min (Int.toNat 2) 64)))&&&BitVec.ofInt 64 3689348814741910323).toNat)+(u64.wrap (BitVec.ofInt 64 x0&&&BitVec.ofInt 64 3689348814741910323).toNat))) H)
def B7 (P:PT):Y k0:=fun x0 H=>
  ((0:Int)≤1)∧(B6 P (u64.wrap ((u64.wrap (BitVec.ofInt 64 (Int.fdiv x0 (2^(min (Int.toNat 1) 64)))&&&BitVec.ofInt 64 6148914691236517205).toNat)+(u64.wrap (BitVec.ofInt 64 x0&&&BitVec.ofInt 64 6148914691236517205).toNat))) H)
def B8 (P:PT):Y k0:=fun x0 H=>
  B7 P x0 H
def code:Code:=(.seq (R 0 2) (.seq (R 1 6) (.seq (R 2 14) (.seq (R 3 30) (.seq (R 4 62) (.seq (R 5 126) (.seq (R 6 254) (.seq (R 7 510) .ret))))))))
theorem body:Tryz.f139.body=some code:=by kernel_rfl
theorem main P:Z 35 k0 (B8 P) code (ret P):=
  (r_seq (b (E k0 (B7 P))) (r_seq (b (E k0 (B6 P))) (r_seq (b (E k0 (B5 P))) (r_seq (b (E k0 (B4 P))) (r_seq (b (E k0 (B3 P))) (r_seq (b (E k0 (B2 P))) (r_seq (b (E k0 (B1 P))) (r_seq (b (ret P)) r_ret))))))))
theorem ac (P:PT) (x0:Int) (H:AHeap) (h:B8 P x0 H):A 139 [(int .u64 x0)] H P:=
  r_fn T0_ok (c:=code) (n:=35) Tryz.func139 body (by kernel_rfl) (main P) (En_mk (x0,()) (by kernel_rfl) ⟨by kernel_rfl,trivial⟩ h)

end F139
namespace F141
abbrev E:=En 21
def O (k:Nat):=ob Tryz.f141 (pth k)
abbrev R (i k:Nat):Code:=.region i ⟨O k⟩ false
def ret (P:PT):EP:=retE T0 21 Tryz.f141 P
abbrev k0:Sk:=[]
def B1 (P:PT):Y k0:=fun H=>
  P (bool true) H
abbrev k1:Sk:=[(0,.v),(2,.v),(7,.v),(8,J),(9,J)]
def B3 (P:PT) (N2:Y k1):Y k1:=fun x0 x2 x7 x8 x9 H=>
  N2 x0 x2 x7 x8 (i64.wrap (x9+1)) H
abbrev k2:Sk:=[(0,.v),(2,.v),(6,J),(7,.v),(8,J),(9,J)]
def o4:=O 1689
def B4 (P:PT) (N2:Y k1):Y k2:=fun x0 x2 x6 x7 x8 x9 H=>
  asP x2 (fun b1 o2=>ld1 H b1 o2 (fun v3=>idxK x0 x6 1 (fun b4 o5=>li H b4 o5 (fun v6=>idxK v3 x6 1 (fun b7 o8=>stK H b7 o8 [(I v6)] (fun H9=>B3 P N2 x0 x2 x7 x8 x9 H9))))))
theorem q4 (P:PT) (N2:Y k1):QD Tryz.prog T0 21 o4 [(0,false),(1,false),(2,false),(3,false),(4,false),(5,false),(6,false),(7,false)] (En 21 k1 (B3 P N2)) k2 (B4 P N2):=fun _ _ _ _ _ _ _ _  => by kernel_rfl
def o5:=O 1688
def B5 (P:PT) (N2:Y k1):Y k1:=fun x0 x2 x7 x8 x9 H=>
  idxK x7 x9 1 (fun b1 o2=>li H b1 o2 (fun v3=>B4 P N2 x0 x2 v3 x7 x8 x9 H))
def B6 (P:PT) (N2:Y k1):Y k1:=fun x0 x2 x7 x8 x9 H=>
  pif (decide ((x9:Int)<x8)) (B5 P N2 x0 x2 x7 x8 x9 H) (B1 P H)
def L2 (P:PT):Y k1:=fun x0 x2 x7 x8 x9 H=>
  ∃ (I:Y k1) (μ:NTy k1 (AHeap→Nat)),I x0 x2 x7 x8 x9 H∧∀ y0 y2 y7 y8 y9 G,I y0 y2 y7 y8 y9 G→B6 P (fun z0 z2 z7 z8 z9 G'=>I z0 z2 z7 z8 z9 G'∧μ z0 z2 z7 z8 z9 G'<μ y0 y2 y7 y8 y9 G) y0 y2 y7 y8 y9 G
theorem l2 P:LQ k1 (L2 P) (B6 P):=fun ⟨_,_,_,_,_,_⟩ _ ⟨I,μ,h0,hI⟩=>⟨apT _ I,apT _ μ,h0,fun ⟨_,_,_,_,_,_⟩ _ h=>hI _ _ _ _ _ _  h⟩
abbrev k3:Sk:=[(0,.v),(1,.v),(2,.v)]
def B7 (P:PT):Y k3:=fun x0 x1 x2 H=>
  asP x1 (fun b1 o2=>ld1 H b1 o2 (fun v3=>lenK v3 (fun n4=>L2 P x0 x2 v3 (n4:Int) 0 H)))
def o8:=O 2
def B8 (P:PT):Y k3:=fun x0 x1 x2 H=>
  B7 P x0 x1 x2 H
def code:Code:=(.seq (R 0 2) (.seq (.seq (R 1 12) (.block 0 (.loop (.seq (R 2 104) (.seq (.cond (.tmp 10) .skip (.exit 0)) (.seq (.block 1 (.seq (R 3 1688) (.region 4 ⟨o4⟩ true))) (R 5 423))))))) (.seq (R 6 14) .ret)))
theorem body:Tryz.f141.body=some code:=by kernel_rfl
theorem main P:Z 21 k3 (B8 P) code (ret P):=
  (r_seq (b (E k3 (B7 P))) (r_seq (r_seq (b (E k1 (L2 P))) (r_block (rL (l2 P) (fun N2=>(r_seq (b (cnd 10 (E k1 (B5 P N2)) (E k0 (B1 P)))) (r_seq (r_cond rfl r_skip (r_exit (fun _ _ h=>h))) (r_seq (r_block (r_seq (b (E k2 (B4 P N2))) (rD T0_ok mixed [(0,false),(1,false),(2,false),(3,false),(4,false),(5,false),(6,false),(7,false)] (by kernel_rfl) (q4 P N2)))) (b (E k1 N2))))))))) (r_seq (b (ret P)) r_ret)))
theorem ac (P:PT) (x0 x1 x2:Value) (H:AHeap) (h:B8 P x0 x1 x2 H):A 141 [x0,x1,x2] H P:=
  r_fn T0_ok (c:=code) (n:=21) Tryz.func141 body (by kernel_rfl) (main P) (En_mk (x0,x1,x2,()) (by kernel_rfl) ⟨by kernel_rfl,by kernel_rfl,by kernel_rfl,trivial⟩ h)

end F141
namespace F142
abbrev E:=En 32
def O (k:Nat):=ob Tryz.f142 (pth k)
abbrev R (i k:Nat):Code:=.region i ⟨O k⟩ false
def ret (P:PT):EP:=retE T0 32 Tryz.f142 P
abbrev k0:Sk:=[(0,.v),(2,.x)]
def B1 (P:PT):Y k0:=fun x0 x2 H=>
  newK H [(I 2),(I 4),(I 4),(I 6),(I 6),(I 8),(I 8),(I 10)] 2 (fun b1 H2=>A 159 [x0,(slice (some ⟨b1,0,none⟩) 8 (8+1))] H2 (fun v3 H4=>asI .i64 v3 (fun v5=>A 185 [x0,(I v5)] H4 (fun v6 H7=>agg2 v6 (fun v8 v9=>asI .i64 v8 (fun v10=>stK H7 x2 0 [(I v10),v9] (fun H12=>li H12 x2 0 (fun v13=>ld1 H12 x2 1 (fun v14=>P (agg ⟨[(I v13),v14]⟩) H12)))))))))
abbrev k1:Sk:=[(0,.v),(2,.x),(4,.x)]
def o2:=O 214
def B2 (P:PT):Y k1:=fun x0 x2 x4 H=>
  li H x4 0 (fun v1=>ld1 H x4 1 (fun v2=>li H x4 0 (fun v3=>A 184 [x0,(I v3)] H (fun v4 H5=>(li H5 x4 0 (fun v7=>ld1 H5 x4 1 (fun v8=>((agg ⟨[(I v7),v8]⟩)=(agg ⟨[(I v1),v2]⟩))∧(H5=H5))))∧(A 183 [(agg ⟨[(I v1),v2]⟩),v4] H5 (fun v9 H10=>agg2 v9 (fun v11 v12=>asI .i64 v11 (fun v13=>stK H10 x2 0 [(I v13),v12] (fun H15=>li H15 x2 0 (fun v16=>ld1 H15 x2 1 (fun v17=>P (agg ⟨[(I v16),v17]⟩) H15)))))))))))
theorem q2 (P:PT):QT Tryz.prog T0 32 o2 (.op 0 [] (.op 1 [] (.op 2 [] (.op 3 [] (.op 4 [0] (.op 5 [] (.op 6 [] .done))))))) (ret P) k1 (B2 P):=fun _ _ _ _ _  => by kernel_rfl
abbrev k2:Sk:=[(0,.v),(2,.x),(3,.v)]
def B3 (P:PT):Y k2:=fun x0 x2 x3 H=>
  lenK x3 (fun n1=>A 88 [x0,(I (n1:Int))] H (fun v2 H3=>asI .i64 v2 (fun v4=>idxK x3 v4 1 (fun b5 o6=>ld1 H3 b5 o6 (fun v8=>asS v8 (fun v7=>A 182 [(string v7)] H3 (fun v9 H10=>tup2 v9 (fun v11 v12=>agg2 v11 (fun v13 v14=>asI .i64 v13 (fun v15=>asB v12 (fun v17=>newK H10 [(I 0),(slice none 0 0)] 31 (fun b18 H19=>stK H19 b18 0 [(I v15),v14] (fun H20=>B2 P x0 x2 b18 H20)))))))))))))
def B4 (P:PT):Y k0:=fun x0 x2 H=>
  newK H [(string (⟨#[116,104,101,116,97]⟩)),(string (⟨#[107,52]⟩)),(string (⟨#[107,51,51]⟩)),(string (⟨#[112,114,105,115,109]⟩)),(string (⟨#[99,117,98,101]⟩)),(string (⟨#[112,101,116,101,114,115,101,110]⟩))] 9 (fun b1 H2=>B3 P x0 x2 (slice (some ⟨b1,0,none⟩) 6 (6+1)) H2)
def B5 (P:PT):Y k0:=fun x0 x2 H=>
  A 88 [x0,(I 4)] H (fun v1 H2=>asI .i64 v1 (fun v3=>pif ((v3:Int)==0) (B4 P x0 x2 H2) (B1 P x0 x2 H2)))
abbrev k3:Sk:=[(0,.v)]
def o6:=O 2
def B6 (P:PT):Y k3:=fun x0 H=>
  newK H [(I 0),(slice none 0 0)] 31 (fun b1 H2=>B5 P x0 b1 H2)
def code:Code:=(.seq (R 0 2) (.seq (.seq (R 1 12) (.cond (.tmp 8) (.seq (R 2 52) (.seq (R 3 106) (.seq (.region 4 ⟨o2⟩ true) .ret))) .skip)) (.seq (R 5 14) .ret)))
theorem body:Tryz.f142.body=some code:=by kernel_rfl
theorem main P:Z 32 k3 (B6 P) code (ret P):=
  (r_seq (b (E k0 (B5 P))) (r_seq (r_seq (b (cnd 8 (E k0 (B4 P)) (E k0 (B1 P)))) (r_cond rfl (r_seq (b (E k2 (B3 P))) (r_seq (b (E k1 (B2 P))) (r_seq (rT T0_ok mixed (.op 0 [] (.op 1 [] (.op 2 [] (.op 3 [] (.op 4 [0] (.op 5 [] (.op 6 [] .done))))))) (by kernel_rfl) (q2 P)) r_ret))) r_skip)) (r_seq (b (ret P)) r_ret)))
theorem ac (P:PT) (x0:Value) (H:AHeap) (h:B6 P x0 H):A 142 [x0] H P:=
  r_fn T0_ok (c:=code) (n:=32) Tryz.func142 body (by kernel_rfl) (main P) (En_mk (x0,()) (by kernel_rfl) ⟨by kernel_rfl,trivial⟩ h)

end F142
namespace F143
abbrev E:=En 62
def O (k:Nat):=ob Tryz.f143 (pth k)
abbrev R (i k:Nat):Code:=.region i ⟨O k⟩ false
def ret (P:PT):EP:=retE T0 62 Tryz.f143 P
abbrev k0:Sk:=[]
def B1 (P:PT):Y k0:=fun H=>
  P (tuple ⟨[(slice none 0 0),(bool false)]⟩) H
abbrev k1:Sk:=[(1,J),(3,.v),(4,.x),(12,J)]
def B3 (P:PT) (N2:Y k1):Y k1:=fun x1 x3 x4 x12 H=>
  N2 x1 x3 x4 (i64.wrap (x12+1)) H
abbrev k2:Sk:=[(13,.v)]
def B4 (P:PT) (N2:Y k1):Y k2:=fun x13 H=>
  P (tuple ⟨[x13,(bool true)]⟩) H
abbrev k3:Sk:=[(1,J),(3,.v),(4,.x),(12,J),(13,.v),(14,.b)]
def o5:=O 3730
def B5 (P:PT) (N2:Y k1):Y k3:=fun x1 x3 x4 x12 x13 x14 H=>
  pif x14 (B4 P N2 x13 H) (B3 P N2 x1 x3 x4 x12 H)
def o6:=O 1864
def B6 (P:PT) (N2:Y k1):Y k1:=fun x1 x3 x4 x12 H=>
  li H x4 0 (fun v1=>ld1 H x4 1 (fun v2=>(A 89 [x3] H (fun v3 H4=>(li H4 x4 0 (fun v6=>ld1 H4 x4 1 (fun v7=>((agg ⟨[(I v6),v7]⟩)=(agg ⟨[(I v1),v2]⟩))∧(H4=H4))))∧(newK H4 [(I x12)] 2 (fun b8 H9=>apK T0 2 H9 v3 (slice (some ⟨b8,0,none⟩) 1 (1+1)) (fun v10 H11=>(li H11 x4 0 (fun v12=>ld1 H11 x4 1 (fun v13=>((agg ⟨[(I v12),v13]⟩)=(agg ⟨[(I v1),v2]⟩))∧(H11=H11))))∧(A 143 [(agg ⟨[(I v1),v2]⟩),(I (i64.wrap (x1-1))),(I (i64.wrap (x12+1))),v10] H11 (fun v14 H15=>tup2 v14 (fun v16 v17=>asB v17 (fun v19=>B5 P N2 x1 x3 x4 x12 v16 v19 H15)))))))))∧(newK H [(I x12)] 2 (fun b20 H21=>A 89 [x3] H21 (fun v22 H23=>(li H23 x4 0 (fun v25=>ld1 H23 x4 1 (fun v26=>((agg ⟨[(I v25),v26]⟩)=(agg ⟨[(I v1),v2]⟩))∧(H23=H23))))∧(apK T0 2 H23 v22 (slice (some ⟨b20,0,none⟩) 1 (1+1)) (fun v27 H28=>(li H28 x4 0 (fun v29=>ld1 H28 x4 1 (fun v30=>((agg ⟨[(I v29),v30]⟩)=(agg ⟨[(I v1),v2]⟩))∧(H28=H28))))∧(A 143 [(agg ⟨[(I v1),v2]⟩),(I (i64.wrap (x1-1))),(I (i64.wrap (x12+1))),v27] H28 (fun v31 H32=>tup2 v31 (fun v33 v34=>asB v34 (fun v36=>B5 P N2 x1 x3 x4 x12 v33 v36 H32)))))))))))
theorem q6 (P:PT) (N2:Y k1):QT Tryz.prog T0 62 o6 (.op 0 [] (.op 1 [] (.op 2 [] (.op 3 [] (.op 4 [] (.op 5 [] (.op 7 [] (.alt (.op 6 [0] (.op 8 [] (.op 9 [0] (.op 10 [] (.op 11 [] (.op 12 [] (.op 13 [] (.op 14 [] (.op 15 [] .done))))))))) (.op 8 [] (.op 6 [0] (.op 9 [0] (.op 10 [] (.op 11 [] (.op 12 [] (.op 13 [] (.op 14 [] (.op 15 [] .done))))))))))))))))) (En 62 k3 (B5 P N2)) k1 (B6 P N2):=fun _ _ _ _ _ _  => by kernel_rfl
def B7 (P:PT) (N2:Y k1):Y k1:=fun x1 x3 x4 x12 H=>
  ld1 H x4 1 (fun v1=>lenK v1 (fun n2=>pif (decide ((x12:Int)<(n2:Int))) (B6 P N2 x1 x3 x4 x12 H) (B1 P H)))
def L2 (P:PT):Y k1:=fun x1 x3 x4 x12 H=>
  ∃ (I:Y k1) (μ:NTy k1 (AHeap→Nat)),I x1 x3 x4 x12 H∧∀ y1 y3 y4 y12 G,I y1 y3 y4 y12 G→B7 P (fun z1 z3 z4 z12 G'=>I z1 z3 z4 z12 G'∧μ z1 z3 z4 z12 G'<μ y1 y3 y4 y12 G) y1 y3 y4 y12 G
theorem l2 P:LQ k1 (L2 P) (B7 P):=fun ⟨_,_,_,_,_⟩ _ ⟨I,μ,h0,hI⟩=>⟨apT _ I,apT _ μ,h0,fun ⟨_,_,_,_,_⟩ _ h=>hI _ _ _ _ _  h⟩
abbrev k4:Sk:=[(1,J),(2,J),(3,.v),(4,.x)]
def B8 (P:PT):Y k4:=fun x1 x2 x3 x4 H=>
  L2 P x1 x3 x4 x2 H
abbrev k5:Sk:=[(3,.v),(4,.x),(10,.v)]
def B9 (P:PT):Y k5:=fun x3 x4 x10 H=>
  li H x4 0 (fun v1=>ld1 H x4 1 (fun v2=>newK H [] 2 (fun b3 H4=>A 186 [(agg ⟨[(I v1),v2]⟩),x10,(slice (some ⟨b3,0,none⟩) 0 (0+1))] H4 (fun v5 H6=>asB v5 (fun v7=>P (tuple ⟨[x3,(bool v7)]⟩) H6)))))
abbrev k6:Sk:=[(3,.v),(4,.x),(10,.v),(11,J)]
def B11 (P:PT) (N10:Y k6):Y k6:=fun x3 x4 x10 x11 H=>
  N10 x3 x4 x10 (i64.wrap (x11+1)) H
def B12 (P:PT) (N10:Y k6):Y k6:=fun x3 x4 x10 x11 H=>
  idxK x3 x11 1 (fun b1 o2=>li H b1 o2 (fun v3=>idxK x10 v3 1 (fun b4 o5=>stK H b4 o5 [(bool true)] (fun H6=>B11 P N10 x3 x4 x10 x11 H6))))
def B13 (P:PT) (N10:Y k6):Y k6:=fun x3 x4 x10 x11 H=>
  lenK x3 (fun n1=>pif (decide ((x11:Int)<(n1:Int))) (B12 P N10 x3 x4 x10 x11 H) (B9 P x3 x4 x10 H))
def L10 (P:PT):Y k6:=fun x3 x4 x10 x11 H=>
  ∃ (I:Y k6) (μ:NTy k6 (AHeap→Nat)),I x3 x4 x10 x11 H∧∀ y3 y4 y10 y11 G,I y3 y4 y10 y11 G→B13 P (fun z3 z4 z10 z11 G'=>I z3 z4 z10 z11 G'∧μ z3 z4 z10 z11 G'<μ y3 y4 y10 y11 G) y3 y4 y10 y11 G
theorem l10 P:LQ k6 (L10 P) (B13 P):=fun ⟨_,_,_,_,_⟩ _ ⟨I,μ,h0,hI⟩=>⟨apT _ I,apT _ μ,h0,fun ⟨_,_,_,_,_⟩ _ h=>hI _ _ _ _ _  h⟩
def B14 (P:PT):Y k5:=fun x3 x4 x10 H=>
  L10 P x3 x4 x10 0 H
abbrev k7:Sk:=[(3,.v),(4,.x)]
def B15 (P:PT):Y k7:=fun x3 x4 H=>
  ld1 H x4 1 (fun v1=>lenK v1 (fun n2=>mkR H 1 4 [(bool false)] (n2:Int) (n2:Int) (fun v4 H3=>B14 P x3 x4 v4 H3)))
def B16 (P:PT):Y k4:=fun x1 x2 x3 x4 H=>
  pif ((x1:Int)==0) (B15 P x3 x4 H) (B8 P x1 x2 x3 x4 H)
abbrev k8:Sk:=[(0,.g [.i,.v]),(1,J),(2,J),(3,.v)]
def B17 (P:PT):Y k8:=fun x0a x0b x1 x2 x3 H=>
  newK H [(I x0a),x0b] 31 (fun b1 H2=>B16 P x1 x2 x3 b1 H2)
def code:Code:=(.seq (R 0 2) (.seq (.seq (R 1 12) (.cond (.tmp 16) (.seq (R 2 52) (.seq (.seq (R 3 212) (.block 0 (.loop (.seq (.seq (R 4 3408) (.cond (.tmp 24) .skip (.exit 0))) (.seq (.block 1 (R 6 6820)) (R 5 3411)))))) (.seq (R 7 214) .ret))) .skip)) (.seq (.seq (R 8 28) (.block 2 (.loop (.seq (.seq (R 9 464) (.cond (.tmp 43) .skip (.exit 2))) (.seq (.block 3 (.seq (.region 11 ⟨o6⟩ true) (.seq (R 12 3730) (.cond (.tmp 60) (.seq (R 13 14924) .ret) .skip)))) (R 10 467)))))) (.seq (R 14 30) .ret))))
theorem body:Tryz.f143.body=some code:=by kernel_rfl
theorem main P:Z 62 k8 (B17 P) code (ret P):=
  (r_seq (b (E k4 (B16 P))) (r_seq (r_seq (b (cnd 16 (E k7 (B15 P)) (E k4 (B8 P)))) (r_cond rfl (r_seq (b (E k5 (B14 P))) (r_seq (r_seq (b (E k6 (L10 P))) (r_block (rL (l10 P) (fun N10=>(r_seq (r_seq (b (cnd 24 (E k6 (B12 P N10)) (E k5 (B9 P)))) (r_cond rfl r_skip (r_exit (fun _ _ h=>h)))) (r_seq (r_block (b (E k6 (B11 P N10)))) (b (E k6 N10)))))))) (r_seq (b (ret P)) r_ret))) r_skip)) (r_seq (r_seq (b (E k1 (L2 P))) (r_block (rL (l2 P) (fun N2=>(r_seq (r_seq (b (cnd 43 (E k1 (B6 P N2)) (E k0 (B1 P)))) (r_cond rfl r_skip (r_exit (fun _ _ h=>h)))) (r_seq (r_block (r_seq (rT T0_ok mixed (.op 0 [] (.op 1 [] (.op 2 [] (.op 3 [] (.op 4 [] (.op 5 [] (.op 7 [] (.alt (.op 6 [0] (.op 8 [] (.op 9 [0] (.op 10 [] (.op 11 [] (.op 12 [] (.op 13 [] (.op 14 [] (.op 15 [] .done))))))))) (.op 8 [] (.op 6 [0] (.op 9 [0] (.op 10 [] (.op 11 [] (.op 12 [] (.op 13 [] (.op 14 [] (.op 15 [] .done))))))))))))))))) (by kernel_rfl) (q6 P N2)) (r_seq (b (cnd 60 (E k2 (B4 P N2)) (E k1 (B3 P N2)))) (r_cond rfl (r_seq (b (ret P)) r_ret) r_skip)))) (b (E k1 N2)))))))) (r_seq (b (ret P)) r_ret))))
theorem ac (P:PT) (x0a:Int) (x0b:Value) (x1 x2:Int) (x3:Value) (H:AHeap) (h:B17 P x0a x0b x1 x2 x3 H):A 143 [(agg ⟨[(I x0a),x0b]⟩),(I x1),(I x2),x3] H P:=
  r_fn T0_ok (c:=code) (n:=62) Tryz.func143 body (by kernel_rfl) (main P) (En_mk (x0a,x0b,x1,x2,x3,()) (by kernel_rfl) ⟨by kernel_rfl,by kernel_rfl,by kernel_rfl,by kernel_rfl,trivial⟩ h)

end F143
namespace F144
abbrev E:=En 10
def O (k:Nat):=ob Tryz.f144 (pth k)
abbrev R (i k:Nat):Code:=.region i ⟨O k⟩ false
def ret (P:PT):EP:=retE T0 10 Tryz.f144 P
abbrev k0:Sk:=[(0,.i .u64),(1,J)]
def B1 (P:PT):Y k0:=fun x0 x1 H=>
  ((0:Int)≤x1)∧(P (bool ((u64.wrap (BitVec.ofInt 64 (Int.fdiv x0 (2^(min (Int.toNat x1) 64)))&&&BitVec.ofInt 64 1).toNat:Int)==1)) H)
def B2 (P:PT):Y k0:=fun x0 x1 H=>
  B1 P x0 x1 H
def code:Code:=(.seq (R 0 2) (.seq (R 1 6) .ret))
theorem body:Tryz.f144.body=some code:=by kernel_rfl
theorem main P:Z 10 k0 (B2 P) code (ret P):=
  (r_seq (b (E k0 (B1 P))) (r_seq (b (ret P)) r_ret))
theorem ac (P:PT) (x0 x1:Int) (H:AHeap) (h:B2 P x0 x1 H):A 144 [(int .u64 x0),(I x1)] H P:=
  r_fn T0_ok (c:=code) (n:=10) Tryz.func144 body (by kernel_rfl) (main P) (En_mk (x0,x1,()) (by kernel_rfl) ⟨by kernel_rfl,by kernel_rfl,trivial⟩ h)

end F144
namespace F145
abbrev E:=En 54
def O (k:Nat):=ob Tryz.f145 (pth k)
abbrev R (i k:Nat):Code:=.region i ⟨O k⟩ false
def ret (P:PT):EP:=retE T0 54 Tryz.f145 P
abbrev k0:Sk:=[]
def B1 (P:PT):Y k0:=fun H=>
  P (bool false) H
abbrev k1:Sk:=[(0,J),(1,J),(2,.v),(5,.v),(6,.v),(7,.v),(11,J),(12,.x)]
def B3 (P:PT) (N2:Y k1):Y k1:=fun x0 x1 x2 x5 x6 x7 x11 x12 H=>
  li H x12 0 (fun v1=>stK H x12 0 [(I (i64.wrap (v1+1)))] (fun H2=>N2 x0 x1 x2 x5 x6 x7 x11 x12 H2))
abbrev k2:Sk:=[(0,J),(1,J),(2,.v),(5,.v),(6,.v),(7,.v),(11,J),(53,J)]
def B4 (P:PT) (N2:Y k1):Y k2:=fun x0 x1 x2 x5 x6 x7 x11 x53 H=>
  newK H [(I 0)] 2 (fun b1 H2=>stK H2 b1 0 [(I x53)] (fun H3=>B3 P N2 x0 x1 x2 x5 x6 x7 x11 b1 H3))
def o5:=O 8012
def B5 (P:PT) (N2:Y k1):Y k1:=fun x0 x1 x2 x5 x6 x7 x11 x12 H=>
  li H x12 0 (fun v1=>B4 P N2 x0 x1 x2 x5 x6 x7 x11 v1 H)
def o6:=O 64076
def B6 (P:PT) (N2:Y k1):Y k0:=fun H=>
  P (bool true) H
def B7 (P:PT) (N2:Y k1):Y k1:=fun x0 x1 x2 x5 x6 x7 x11 x12 H=>
  asP x5 (fun b1 o2=>ld1 H b1 o2 (fun v3=>idxK v3 x0 1 (fun b4 o5=>ld1 H b4 o5 (fun v6=>A 146 [v6,(func (.func 147) ⟨[]⟩ ⟨[x6,(pointer (some ⟨x12,0,none⟩)),x2]⟩)] H (fun v7 H8=>asB v7 (fun v9=>pif (!v9) (asP x7 (fun b10 o11=>ld1 H8 b10 o11 (fun v12=>li H8 x12 0 (fun v13=>callV Tryz.prog T0 v12 [(I (i64.wrap (x0+1))),(I (if v13>x1 then v13 else x1))] H8 (fun v14 H15=>asB v14 (fun v16=>pif v16 (B6 P N2 H15) (B5 P N2 x0 x1 x2 x5 x6 x7 x11 x12 H15))))))) (B5 P N2 x0 x1 x2 x5 x6 x7 x11 x12 H8)))))))
def B8 (P:PT) (N2:Y k1):Y k1:=fun x0 x1 x2 x5 x6 x7 x11 x12 H=>
  asP x2 (fun b1 o2=>ld1 H b1 o2 (fun v3=>li H x12 0 (fun v4=>idxK v3 x0 1 (fun b5 o6=>stK H b5 o6 [(I v4)] (fun H7=>B7 P N2 x0 x1 x2 x5 x6 x7 x11 x12 H7)))))
def B9 (P:PT) (N2:Y k1):Y k1:=fun x0 x1 x2 x5 x6 x7 x11 x12 H=>
  li H x12 0 (fun v1=>pif (decide ((v1:Int)≤x11)) (B8 P N2 x0 x1 x2 x5 x6 x7 x11 x12 H) (B1 P H))
def L2 (P:PT):Y k1:=fun x0 x1 x2 x5 x6 x7 x11 x12 H=>
  ∃ (I:Y k1) (μ:NTy k1 (AHeap→Nat)),I x0 x1 x2 x5 x6 x7 x11 x12 H∧∀ y0 y1 y2 y5 y6 y7 y11 y12 G,I y0 y1 y2 y5 y6 y7 y11 y12 G→B9 P (fun z0 z1 z2 z5 z6 z7 z11 z12 G'=>I z0 z1 z2 z5 z6 z7 z11 z12 G'∧μ z0 z1 z2 z5 z6 z7 z11 z12 G'<μ y0 y1 y2 y5 y6 y7 y11 y12 G) y0 y1 y2 y5 y6 y7 y11 y12 G
theorem l2 P:LQ k1 (L2 P) (B9 P):=fun ⟨_,_,_,_,_,_,_,_,_⟩ _ ⟨I,μ,h0,hI⟩=>⟨apT _ I,apT _ μ,h0,fun ⟨_,_,_,_,_,_,_,_,_⟩ _ h=>hI _ _ _ _ _ _ _ _ _  h⟩
abbrev k3:Sk:=[(0,J),(1,J),(2,.v),(5,.v),(6,.v),(7,.v),(11,J)]
def B10 (P:PT):Y k3:=fun x0 x1 x2 x5 x6 x7 x11 H=>
  newK H [(I 0)] 2 (fun b1 H2=>stK H2 b1 0 [(I 0)] (fun H3=>L2 P x0 x1 x2 x5 x6 x7 x11 b1 H3))
def o11:=O 242
def B11 (P:PT):Y k3:=fun x0 x1 x2 x5 x6 x7 x11 H=>
  B10 P x0 x1 x2 x5 x6 x7 (if (i64.wrap (x1+1))<x11 then i64.wrap (x1+1) else x11) H
abbrev k4:Sk:=[(0,J),(1,J),(2,.v),(5,.v),(6,.v),(7,.v)]
def B12 (P:PT):Y k4:=fun x0 x1 x2 x5 x6 x7 H=>
  B10 P x0 x1 x2 x5 x6 x7 0 H
def B13 (P:PT):Y k3:=fun x0 x1 x2 x5 x6 x7 x11 H=>
  pif ((x0:Int)==0) (B12 P x0 x1 x2 x5 x6 x7 H) (B10 P x0 x1 x2 x5 x6 x7 x11 H)
abbrev k5:Sk:=[(0,J),(1,J),(2,.v),(4,.v),(5,.v),(6,.v),(7,.v),(11,J)]
def B14 (P:PT):Y k5:=fun x0 x1 x2 x4 x5 x6 x7 x11 H=>
  asP x4 (fun b1 o2=>ld1 H b1 o2 (fun v4=>asB v4 (fun v3=>pif v3 (B11 P x0 x1 x2 x5 x6 x7 x11 H) (B13 P x0 x1 x2 x5 x6 x7 x11 H))))
abbrev k6:Sk:=[(0,J),(1,J),(2,.v),(3,.v),(4,.v),(5,.v),(6,.v),(7,.v)]
def B15 (P:PT):Y k6:=fun x0 x1 x2 x3 x4 x5 x6 x7 H=>
  asP x3 (fun b1 o2=>li H b1 o2 (fun v3=>B14 P x0 x1 x2 x4 x5 x6 x7 (i64.wrap (v3-1)) H))
def B16 (P:PT):Y k0:=fun H=>
  P (bool true) H
def B17 (P:PT):Y k6:=fun x0 x1 x2 x3 x4 x5 x6 x7 H=>
  asP x2 (fun b1 o2=>ld1 H b1 o2 (fun v3=>lenK v3 (fun n4=>pif ((x0:Int)==(n4:Int)) (B16 P H) (B15 P x0 x1 x2 x3 x4 x5 x6 x7 H))))
def B18 (P:PT):Y k6:=fun x0 x1 x2 x3 x4 x5 x6 x7 H=>
  B17 P x0 x1 x2 x3 x4 x5 x6 x7 H
def code:Code:=(.seq (R 0 2) (.seq (.seq (R 1 12) (.cond (.tmp 16) (.seq (R 2 52) .ret) .skip)) (.seq (R 3 14) (.seq (.block 0 (.seq (R 4 120) (.cond (.tmp 19) (R 5 242) (.seq (R 6 486) (.cond (.tmp 25) (R 7 974) .skip))))) (.seq (.seq (R 8 124) (.block 1 (.loop (.seq (.seq (R 9 2000) (.cond (.tmp 30) .skip (.exit 1))) (.seq (.block 2 (.seq (R 11 8008) (.seq (R 12 16018) (.cond (.tmp 52) (.seq (R 13 64076) .ret) .skip)))) (.seq (.seq (R 14 8012) (R 15 8013)) (R 10 4007))))))) (.seq (R 16 126) .ret))))))
theorem body:Tryz.f145.body=some code:=by kernel_rfl
theorem main P:Z 54 k6 (B18 P) code (ret P):=
  (r_seq (b (E k6 (B17 P))) (r_seq (r_seq (b (cnd 16 (E k0 (B16 P)) (E k6 (B15 P)))) (r_cond rfl (r_seq (b (ret P)) r_ret) r_skip)) (r_seq (b (E k5 (B14 P))) (r_seq (r_block (r_seq (b (cnd 19 (E k3 (B11 P)) (E k3 (B13 P)))) (r_cond rfl (b (E k3 (B10 P))) (r_seq (b (cnd 25 (E k4 (B12 P)) (E k3 (B10 P)))) (r_cond rfl (b (E k3 (B10 P))) r_skip))))) (r_seq (r_seq (b (E k1 (L2 P))) (r_block (rL (l2 P) (fun N2=>(r_seq (r_seq (b (cnd 30 (E k1 (B8 P N2)) (E k0 (B1 P)))) (r_cond rfl r_skip (r_exit (fun _ _ h=>h)))) (r_seq (r_block (r_seq (b (E k1 (B7 P N2))) (r_seq (b (cnd 52 (E k0 (B6 P N2)) (E k1 (B5 P N2)))) (r_cond rfl (r_seq (b (ret P)) r_ret) r_skip)))) (r_seq (r_seq (b (E k2 (B4 P N2))) (b (E k1 (B3 P N2)))) (b (E k1 N2))))))))) (r_seq (b (ret P)) r_ret))))))
theorem ac (P:PT) (x0 x1:Int) (x2 x3 x4 x5 x6 x7:Value) (H:AHeap) (h:B18 P x0 x1 x2 x3 x4 x5 x6 x7 H):A 145 [(I x0),(I x1),x2,x3,x4,x5,x6,x7] H P:=
  r_fn T0_ok (c:=code) (n:=54) Tryz.func145 body (by kernel_rfl) (main P) (En_mk (x0,x1,x2,x3,x4,x5,x6,x7,()) (by kernel_rfl) ⟨by kernel_rfl,by kernel_rfl,by kernel_rfl,by kernel_rfl,by kernel_rfl,by kernel_rfl,by kernel_rfl,by kernel_rfl,trivial⟩ h)

end F145
namespace F146
abbrev E:=En 9
def O (k:Nat):=ob Tryz.f146 (pth k)
abbrev R (i k:Nat):Code:=.region i ⟨O k⟩ false
def ret (P:PT):EP:=retE T0 9 Tryz.f146 P
abbrev k0:Sk:=[(0,.v),(1,.v)]
def B1 (P:PT):Y k0:=fun x0 x1 H=>
  A 187 [x0,x1] H (fun v1 H2=>asI .i64 v1 (fun v3=>P (bool (decide ((v3:Int)≥0))) H2))
def B2 (P:PT):Y k0:=fun x0 x1 H=>
  B1 P x0 x1 H
def code:Code:=(.seq (R 0 2) (.seq (R 1 6) .ret))
theorem body:Tryz.f146.body=some code:=by kernel_rfl
theorem main P:Z 9 k0 (B2 P) code (ret P):=
  (r_seq (b (E k0 (B1 P))) (r_seq (b (ret P)) r_ret))
theorem ac (P:PT) (x0 x1:Value) (H:AHeap) (h:B2 P x0 x1 H):A 146 [x0,x1] H P:=
  r_fn T0_ok (c:=code) (n:=9) Tryz.func146 body (by kernel_rfl) (main P) (En_mk (x0,x1,()) (by kernel_rfl) ⟨by kernel_rfl,by kernel_rfl,trivial⟩ h)

end F146
namespace F147
abbrev E:=En 13
def O (k:Nat):=ob Tryz.f147 (pth k)
abbrev R (i k:Nat):Code:=.region i ⟨O k⟩ false
def ret (P:PT):EP:=retE T0 13 Tryz.f147 P
abbrev k0:Sk:=[(0,J),(1,.v),(2,.v),(3,.v)]
def o1:=O 6
def B1 (P:PT):Y k0:=fun x0 x1 x2 x3 H=>
  asP x1 (fun b1 o2=>ld1 H b1 o2 (fun v3=>asP x2 (fun b4 o5=>li H b4 o5 (fun v6=>asP x3 (fun b7 o8=>ld1 H b7 o8 (fun v9=>idxK v9 x0 1 (fun b10 o11=>li H b10 o11 (fun v12=>callV Tryz.prog T0 v3 [(I v6),(I v12)] H (fun v13 H14=>asB v13 (fun v15=>P (bool v15) H14))))))))))
theorem q1 (P:PT):QD Tryz.prog T0 13 o1 [(0,false),(1,false),(2,false),(3,false),(4,false),(5,false),(6,false),(7,false)] (ret P) k0 (B1 P):=fun _ _ _ _ _ _  => by kernel_rfl
def o2:=O 2
def B2 (P:PT):Y k0:=fun x0 x1 x2 x3 H=>
  B1 P x0 x1 x2 x3 H
def code:Code:=(.seq (R 0 2) (.seq (.region 1 ⟨o1⟩ true) .ret))
theorem body:Tryz.f147.body=some code:=by kernel_rfl
theorem main P:Z 13 k0 (B2 P) code (ret P):=
  (r_seq (b (E k0 (B1 P))) (r_seq (rD T0_ok mixed [(0,false),(1,false),(2,false),(3,false),(4,false),(5,false),(6,false),(7,false)] (by kernel_rfl) (q1 P)) r_ret))
theorem ac (P:PT) (x0:Int) (x1 x2 x3:Value) (H:AHeap) (h:B2 P x0 x1 x2 x3 H):A 147 [(I x0),x1,x2,x3] H P:=
  r_fn T0_ok (c:=code) (n:=13) Tryz.func147 body (by kernel_rfl) (main P) (En_mk (x0,x1,x2,x3,()) (by kernel_rfl) ⟨by kernel_rfl,by kernel_rfl,by kernel_rfl,by kernel_rfl,trivial⟩ h)

end F147
namespace F148
abbrev E:=En 35
def O (k:Nat):=ob Tryz.f148 (pth k)
abbrev R (i k:Nat):Code:=.region i ⟨O k⟩ false
def ret (P:PT):EP:=retE T0 35 Tryz.f148 P
abbrev k0:Sk:=[(5,.v)]
def B1 (P:PT):Y k0:=fun x5 H=>
  P x5 H
abbrev k1:Sk:=[(1,.v),(5,.v),(10,J),(11,J)]
def B3 (P:PT) (N2:Y k1):Y k1:=fun x1 x5 x10 x11 H=>
  N2 x1 x5 x10 (i64.wrap (x11+1)) H
abbrev k2:Sk:=[(1,.v),(5,.v),(6,J),(10,J),(11,J),(14,J),(15,J)]
def B5 (P:PT) (N2:Y k1) (N4:Y k2):Y k2:=fun x1 x5 x6 x10 x11 x14 x15 H=>
  N4 x1 x5 x6 x10 x11 x14 (i64.wrap (x15+1)) H
abbrev k3:Sk:=[(1,.v),(5,.v),(6,J),(7,J),(10,J),(11,J),(14,J),(15,J)]
def B6 (P:PT) (N2:Y k1) (N4:Y k2):Y k3:=fun x1 x5 x6 x7 x10 x11 x14 x15 H=>
  idxK x5 x6 1 (fun b1 o2=>ld1 H b1 o2 (fun v3=>newK H [(I x7)] 2 (fun b4 H5=>apK T0 2 H5 v3 (slice (some ⟨b4,0,none⟩) 1 (1+1)) (fun v6 H7=>idxK x5 x6 1 (fun b8 o9=>pif (Value.oneCell' v6) (stK H7 b8 o9 [v6] (fun H10=>B5 P N2 N4 x1 x5 x6 x10 x11 x14 x15 H10)) False)))))
def B7 (P:PT) (N2:Y k1) (N4:Y k2):Y k3:=fun x1 x5 x6 x7 x10 x11 x14 x15 H=>
  callV Tryz.prog T0 x1 [(I x6),(I x7)] H (fun v1 H2=>asB v1 (fun v3=>pif v3 (B6 P N2 N4 x1 x5 x6 x7 x10 x11 x14 x15 H2) (B5 P N2 N4 x1 x5 x6 x10 x11 x14 x15 H2)))
def B8 (P:PT) (N2:Y k1) (N4:Y k2):Y k2:=fun x1 x5 x6 x10 x11 x14 x15 H=>
  B7 P N2 N4 x1 x5 x6 x15 x10 x11 x14 x15 H
def o9:=O 59800
def B9 (P:PT) (N2:Y k1) (N4:Y k2):Y k2:=fun x1 x5 x6 x10 x11 x14 x15 H=>
  pif (decide ((x15:Int)<x14)) (B8 P N2 N4 x1 x5 x6 x10 x11 x14 x15 H) (B3 P N2 x1 x5 x10 x11 H)
def L4 (P:PT) (N2:Y k1):Y k2:=fun x1 x5 x6 x10 x11 x14 x15 H=>
  ∃ (I:Y k2) (μ:NTy k2 (AHeap→Nat)),I x1 x5 x6 x10 x11 x14 x15 H∧∀ y1 y5 y6 y10 y11 y14 y15 G,I y1 y5 y6 y10 y11 y14 y15 G→B9 P N2 (fun z1 z5 z6 z10 z11 z14 z15 G'=>I z1 z5 z6 z10 z11 z14 z15 G'∧μ z1 z5 z6 z10 z11 z14 z15 G'<μ y1 y5 y6 y10 y11 y14 y15 G) y1 y5 y6 y10 y11 y14 y15 G
theorem l4 P N2:LQ k2 (L4 P N2) (B9 P N2):=fun ⟨_,_,_,_,_,_,_,_⟩ _ ⟨I,μ,h0,hI⟩=>⟨apT _ I,apT _ μ,h0,fun ⟨_,_,_,_,_,_,_,_⟩ _ h=>hI _ _ _ _ _ _ _ _  h⟩
abbrev k4:Sk:=[(1,.v),(5,.v),(6,J),(10,J),(11,J)]
def B10 (P:PT) (N2:Y k1):Y k4:=fun x1 x5 x6 x10 x11 H=>
  L4 P N2 x1 x5 x6 x10 x11 x6 0 H
def B11 (P:PT) (N2:Y k1):Y k1:=fun x1 x5 x10 x11 H=>
  B10 P N2 x1 x5 x11 x10 x11 H
def B12 (P:PT) (N2:Y k1):Y k1:=fun x1 x5 x10 x11 H=>
  pif (decide ((x11:Int)<x10)) (B11 P N2 x1 x5 x10 x11 H) (B1 P x5 H)
def L2 (P:PT):Y k1:=fun x1 x5 x10 x11 H=>
  ∃ (I:Y k1) (μ:NTy k1 (AHeap→Nat)),I x1 x5 x10 x11 H∧∀ y1 y5 y10 y11 G,I y1 y5 y10 y11 G→B12 P (fun z1 z5 z10 z11 G'=>I z1 z5 z10 z11 G'∧μ z1 z5 z10 z11 G'<μ y1 y5 y10 y11 G) y1 y5 y10 y11 G
theorem l2 P:LQ k1 (L2 P) (B12 P):=fun ⟨_,_,_,_,_⟩ _ ⟨I,μ,h0,hI⟩=>⟨apT _ I,apT _ μ,h0,fun ⟨_,_,_,_,_⟩ _ h=>hI _ _ _ _ _  h⟩
abbrev k5:Sk:=[(0,J),(1,.v),(5,.v)]
def B13 (P:PT):Y k5:=fun x0 x1 x5 H=>
  L2 P x1 x5 x0 0 H
abbrev k6:Sk:=[(0,J),(1,.v)]
def B14 (P:PT):Y k6:=fun x0 x1 H=>
  mkR H 24 42 [(slice none 0 0)] x0 x0 (fun v2 H1=>B13 P x0 x1 v2 H1)
def B15 (P:PT):Y k6:=fun x0 x1 H=>
  B14 P x0 x1 H
def code:Code:=(.seq (R 0 2) (.seq (R 1 6) (.seq (.seq (R 2 28) (.block 0 (.loop (.seq (R 3 232) (.seq (.cond (.tmp 12) .skip (.exit 0)) (.seq (.block 1 (.seq (R 4 3736) (.seq (R 5 7474) (.block 2 (.loop (.seq (R 6 59800) (.seq (.cond (.tmp 16) .skip (.exit 2)) (.seq (.block 3 (.seq (R 7 956824) (.seq (R 8 1913650) (.cond (.tmp 21) (R 9 3827302) .skip)))) (R 10 239207))))))))) (R 11 935))))))) (.seq (R 12 30) .ret))))
theorem body:Tryz.f148.body=some code:=by kernel_rfl
theorem main P:Z 35 k6 (B15 P) code (ret P):=
  (r_seq (b (E k6 (B14 P))) (r_seq (b (E k5 (B13 P))) (r_seq (r_seq (b (E k1 (L2 P))) (r_block (rL (l2 P) (fun N2=>(r_seq (b (cnd 12 (E k1 (B11 P N2)) (E k0 (B1 P)))) (r_seq (r_cond rfl r_skip (r_exit (fun _ _ h=>h))) (r_seq (r_block (r_seq (b (E k4 (B10 P N2))) (r_seq (b (E k2 (L4 P N2))) (r_block (rL (l4 P N2) (fun N4=>(r_seq (b (cnd 16 (E k2 (B8 P N2 N4)) (E k1 (B3 P N2)))) (r_seq (r_cond rfl r_skip (r_exit (fun _ _ h=>h))) (r_seq (r_block (r_seq (b (E k3 (B7 P N2 N4))) (r_seq (b (cnd 21 (E k3 (B6 P N2 N4)) (E k2 (B5 P N2 N4)))) (r_cond rfl (b (E k2 (B5 P N2 N4))) r_skip)))) (b (E k2 N4))))))))))) (b (E k1 N2))))))))) (r_seq (b (ret P)) r_ret))))
theorem ac (P:PT) (x0:Int) (x1:Value) (H:AHeap) (h:B15 P x0 x1 H):A 148 [(I x0),x1] H P:=
  r_fn T0_ok (c:=code) (n:=35) Tryz.func148 body (by kernel_rfl) (main P) (En_mk (x0,x1,()) (by kernel_rfl) ⟨by kernel_rfl,by kernel_rfl,trivial⟩ h)

end F148
namespace F149
abbrev E:=En 33
def O (k:Nat):=ob Tryz.f149 (pth k)
abbrev R (i k:Nat):Code:=.region i ⟨O k⟩ false
def ret (P:PT):EP:=retE T0 33 Tryz.f149 P
abbrev k0:Sk:=[(1,J),(2,J),(3,.x)]
def o1:=O 6
def B1 (P:PT):Y k0:=fun x1 x2 x3 H=>
  ld1 H x3 1 (fun v1=>idxK v1 x1 2 (fun b2 o3=>li H b2 o3 (fun v4=>li H b2 (o3+1) (fun v5=>ld1 H x3 1 (fun v6=>idxK v6 x2 2 (fun b7 o8=>li H b7 o8 (fun v9=>A 169 [(agg ⟨[(I v4),(I v5)]⟩),(I v9)] H (fun v10 H11=>asB v10 (fun v12=>pif v12 (P (bool true) H11) (ld1 H11 x3 1 (fun v13=>idxK v13 x1 2 (fun b14 o15=>li H11 b14 o15 (fun v16=>li H11 b14 (o15+1) (fun v17=>ld1 H11 x3 1 (fun v18=>idxK v18 x2 2 (fun b19 o20=>li H11 b19 (o20+1) (fun v21=>A 169 [(agg ⟨[(I v16),(I v17)]⟩),(I v21)] H11 (fun v22 H23=>asB v22 (fun v24=>P (bool v24) H23)))))))))))))))))))
theorem q1 (P:PT):QD Tryz.prog T0 33 o1 [(0,false),(1,false),(2,false),(3,false),(4,false),(5,false),(6,false),(7,false),(8,false),(9,false),(10,false),(11,false),(12,false),(13,false),(14,false),(15,false),(16,false),(17,false),(18,false),(19,false),(20,false),(21,false),(22,false),(23,false),(24,false),(25,false),(26,false)] (ret P) k0 (B1 P):=fun _ _ _ _ _  => by kernel_rfl
abbrev k1:Sk:=[(0,.g [.i,.v]),(1,J),(2,J)]
def B2 (P:PT):Y k1:=fun x0a x0b x1 x2 H=>
  newK H [(I x0a),x0b] 31 (fun b1 H2=>B1 P x1 x2 b1 H2)
def code:Code:=(.seq (R 0 2) (.seq (.region 1 ⟨o1⟩ true) .ret))
theorem body:Tryz.f149.body=some code:=by kernel_rfl
theorem main P:Z 33 k1 (B2 P) code (ret P):=
  (r_seq (b (E k0 (B1 P))) (r_seq (rD T0_ok mixed [(0,false),(1,false),(2,false),(3,false),(4,false),(5,false),(6,false),(7,false),(8,false),(9,false),(10,false),(11,false),(12,false),(13,false),(14,false),(15,false),(16,false),(17,false),(18,false),(19,false),(20,false),(21,false),(22,false),(23,false),(24,false),(25,false),(26,false)] (by kernel_rfl) (q1 P)) r_ret))
theorem ac (P:PT) (x0a:Int) (x0b:Value) (x1 x2:Int) (H:AHeap) (h:B2 P x0a x0b x1 x2 H):A 149 [(agg ⟨[(I x0a),x0b]⟩),(I x1),(I x2)] H P:=
  r_fn T0_ok (c:=code) (n:=33) Tryz.func149 body (by kernel_rfl) (main P) (En_mk (x0a,x0b,x1,x2,()) (by kernel_rfl) ⟨by kernel_rfl,by kernel_rfl,by kernel_rfl,trivial⟩ h)

end F149
namespace F150
abbrev E:=En 29
def O (k:Nat):=ob Tryz.f150 (pth k)
abbrev R (i k:Nat):Code:=.region i ⟨O k⟩ false
def ret (P:PT):EP:=retE T0 29 Tryz.f150 P
abbrev k0:Sk:=[(0,J),(1,J),(2,.v),(3,.v)]
def B1 (P:PT):Y k0:=fun x0 x1 x2 x3 H=>
  asP x2 (fun b1 o2=>li H b1 o2 (fun v3=>pif (decide ((if (i64.wrap (x1-x0))>(i64.wrap (x0-x1)) then i64.wrap (x1-x0) else i64.wrap (x0-x1):Int)<v3)) (P (bool true) H) (asP x3 (fun b4 o5=>li H b4 o5 (fun v6=>asP x2 (fun b7 o8=>li H b7 o8 (fun v9=>P (bool (decide ((if (i64.wrap (x1-x0))>(i64.wrap (x0-x1)) then i64.wrap (x1-x0) else i64.wrap (x0-x1):Int)>(i64.wrap (v6-v9))))) H)))))))
def o2:=O 2
def B2 (P:PT):Y k0:=fun x0 x1 x2 x3 H=>
  B1 P x0 x1 x2 x3 H
def code:Code:=(.seq (R 0 2) (.seq (R 1 6) .ret))
theorem body:Tryz.f150.body=some code:=by kernel_rfl
theorem main P:Z 29 k0 (B2 P) code (ret P):=
  (r_seq (b (E k0 (B1 P))) (r_seq (b (ret P)) r_ret))
theorem ac (P:PT) (x0 x1:Int) (x2 x3:Value) (H:AHeap) (h:B2 P x0 x1 x2 x3 H):A 150 [(I x0),(I x1),x2,x3] H P:=
  r_fn T0_ok (c:=code) (n:=29) Tryz.func150 body (by kernel_rfl) (main P) (En_mk (x0,x1,x2,x3,()) (by kernel_rfl) ⟨by kernel_rfl,by kernel_rfl,by kernel_rfl,by kernel_rfl,trivial⟩ h)

end F150
namespace F151
abbrev E:=En 13
def O (k:Nat):=ob Tryz.f151 (pth k)
abbrev R (i k:Nat):Code:=.region i ⟨O k⟩ false
def ret (P:PT):EP:=retE T0 13 Tryz.f151 P
abbrev k0:Sk:=[(0,J),(1,.v),(2,.v),(3,.v)]
def o1:=O 6
def B1 (P:PT):Y k0:=fun x0 x1 x2 x3 H=>
  asP x1 (fun b1 o2=>ld1 H b1 o2 (fun v3=>asP x2 (fun b4 o5=>li H b4 o5 (fun v6=>asP x3 (fun b7 o8=>ld1 H b7 o8 (fun v9=>idxK v9 x0 1 (fun b10 o11=>li H b10 o11 (fun v12=>callV Tryz.prog T0 v3 [(I v6),(I v12)] H (fun v13 H14=>asB v13 (fun v15=>P (bool v15) H14))))))))))
theorem q1 (P:PT):QD Tryz.prog T0 13 o1 [(0,false),(1,false),(2,false),(3,false),(4,false),(5,false),(6,false),(7,false)] (ret P) k0 (B1 P):=fun _ _ _ _ _ _  => by kernel_rfl
def o2:=O 2
def B2 (P:PT):Y k0:=fun x0 x1 x2 x3 H=>
  B1 P x0 x1 x2 x3 H
def code:Code:=(.seq (R 0 2) (.seq (.region 1 ⟨o1⟩ true) .ret))
theorem body:Tryz.f151.body=some code:=by kernel_rfl
theorem main P:Z 13 k0 (B2 P) code (ret P):=
  (r_seq (b (E k0 (B1 P))) (r_seq (rD T0_ok mixed [(0,false),(1,false),(2,false),(3,false),(4,false),(5,false),(6,false),(7,false)] (by kernel_rfl) (q1 P)) r_ret))
theorem ac (P:PT) (x0:Int) (x1 x2 x3:Value) (H:AHeap) (h:B2 P x0 x1 x2 x3 H):A 151 [(I x0),x1,x2,x3] H P:=
  r_fn T0_ok (c:=code) (n:=13) Tryz.func151 body (by kernel_rfl) (main P) (En_mk (x0,x1,x2,x3,()) (by kernel_rfl) ⟨by kernel_rfl,by kernel_rfl,by kernel_rfl,by kernel_rfl,trivial⟩ h)

end F151
namespace F152
abbrev E:=En 69
def O (k:Nat):=ob Tryz.f152 (pth k)
abbrev R (i k:Nat):Code:=.region i ⟨O k⟩ false
def ret (P:PT):EP:=retE T0 69 Tryz.f152 P
abbrev k0:Sk:=[(3,.x),(4,.x),(5,.v)]
def B1 (P:PT):Y k0:=fun x3 x4 x5 H=>
  li H x3 0 (fun v1=>pif (Value.oneCell' x5) (stK H x4 0 [(I v1),x5] (fun H2=>li H2 x4 0 (fun v3=>ld1 H2 x4 1 (fun v4=>P (agg ⟨[(I v3),v4]⟩) H2)))) False)
abbrev k1:Sk:=[(0,.v),(3,.x),(4,.x),(5,.v)]
def o2:=O 468
def B2 (P:PT):Y k1:=fun x0 x3 x4 x5 H=>
  li H x3 0 (fun v1=>newK H [(I 0),(I 3),(I 22),(I (-2)),(I (i64.wrap (v1+2)))] 2 (fun b2 H3=>A 159 [x0,(slice (some ⟨b2,0,none⟩) 5 (5+1))] H3 (fun v4 H5=>asI .i64 v4 (fun v6=>pif (Value.oneCell' x5) (stK H5 x4 0 [(I v6),x5] (fun H7=>li H7 x4 0 (fun v8=>ld1 H7 x4 1 (fun v9=>P (agg ⟨[(I v8),v9]⟩) H7)))) False))))
def o3:=O 942
def B3 (P:PT):Y k1:=fun x0 x3 x4 x5 H=>
  lenK x5 (fun n1=>li H x3 0 (fun v2=>li H x3 0 (fun v3=>(A 88 [x0,(I (n1:Int))] H (fun v4 H5=>asI .i64 v4 (fun v6=>(li H5 x3 0 (fun v7=>((I v7)=(I v2))∧(H5=H5)))∧((li H5 x3 0 (fun v8=>((I v8)=(I v3))∧(H5=H5)))∧((A 88 [x0,(I v2)] H5 (fun v9 H10=>asI .i64 v9 (fun v11=>(li H10 x3 0 (fun v12=>((I v12)=(I v3))∧(H10=H10)))∧(newK H10 [(I (-1)),(I v3),(I 0)] 2 (fun b13 H14=>A 159 [x0,(slice (some ⟨b13,0,none⟩) 3 (3+1))] H14 (fun v15 H16=>asI .i64 v15 (fun v17=>idxK x5 v6 2 (fun b18 o19=>stK H16 b18 o19 [(I v11),(I v17)] (fun H20=>B1 P x3 x4 x5 H20)))))))))∧(newK H5 [(I (-1)),(I v3),(I 0)] 2 (fun b21 H22=>A 88 [x0,(I v2)] H22 (fun v23 H24=>asI .i64 v23 (fun v25=>(li H24 x3 0 (fun v26=>((I v26)=(I v3))∧(H24=H24)))∧(A 159 [x0,(slice (some ⟨b21,0,none⟩) 3 (3+1))] H24 (fun v27 H28=>asI .i64 v27 (fun v29=>idxK x5 v6 2 (fun b30 o31=>stK H28 b30 o31 [(I v25),(I v29)] (fun H32=>B1 P x3 x4 x5 H32))))))))))))))∧(newK H [(I (-1)),(I v3),(I 0)] 2 (fun b33 H34=>A 88 [x0,(I (n1:Int))] H34 (fun v35 H36=>asI .i64 v35 (fun v37=>(li H36 x3 0 (fun v38=>((I v38)=(I v2))∧(H36=H36)))∧((li H36 x3 0 (fun v39=>((I v39)=(I v3))∧(H36=H36)))∧(A 88 [x0,(I v2)] H36 (fun v40 H41=>asI .i64 v40 (fun v42=>(li H41 x3 0 (fun v43=>((I v43)=(I v3))∧(H41=H41)))∧(A 159 [x0,(slice (some ⟨b33,0,none⟩) 3 (3+1))] H41 (fun v44 H45=>asI .i64 v44 (fun v46=>idxK x5 v37 2 (fun b47 o48=>stK H45 b47 o48 [(I v42),(I v46)] (fun H49=>B1 P x3 x4 x5 H49))))))))))))))))
theorem q3 (P:PT):QT Tryz.prog T0 69 o3 (.op 0 [] (.op 1 [] (.op 2 [] (.op 3 [] (.op 5 [] (.op 6 [] (.op 7 [] (.op 9 [] (.op 10 [] (.op 11 [] (.alt (.op 4 [7,11] (.alt (.op 8 [11] (.op 12 [] (.op 13 [] (.op 14 [] (.op 15 [] (.op 16 [] .done)))))) (.op 12 [] (.op 8 [11] (.op 13 [] (.op 14 [] (.op 15 [] (.op 16 [] .done)))))))) (.op 12 [] (.op 4 [7,11] (.op 8 [11] (.op 13 [] (.op 14 [] (.op 15 [] (.op 16 [] .done)))))))))))))))))) (En 69 k0 (B1 P)) k1 (B3 P):=fun _ _ _ _ _ _  => by kernel_rfl
abbrev k2:Sk:=[(3,.x),(4,.x),(5,.v),(6,.x)]
def B4 (P:PT):Y k2:=fun x3 x4 x5 x6 H=>
  lenK x5 (fun n1=>li H x6 0 (fun v2=>li H x6 1 (fun v3=>idxK x5 (i64.wrap ((n1:Int)-1)) 2 (fun b4 o5=>stK H b4 o5 [(I v2),(I v3)] (fun H6=>B1 P x3 x4 x5 H6)))))
def o5:=O 15098
def B5 (P:PT):Y k2:=fun x3 x4 x5 x6 H=>
  lenK x5 (fun n1=>idxK x5 (i64.wrap ((n1:Int)-1)) 2 (fun b2 o3=>li H b2 o3 (fun v4=>li H b2 (o3+1) (fun v5=>idxK x5 0 2 (fun b6 o7=>stK H b6 o7 [(I v4),(I v5)] (fun H8=>B4 P x3 x4 x5 x6 H8))))))
def B6 (P:PT):Y k0:=fun x3 x4 x5 H=>
  idxK x5 0 2 (fun b1 o2=>li H b1 o2 (fun v3=>li H b1 (o2+1) (fun v4=>newK H [(I 0),(I 0)] 28 (fun b5 H6=>stK H6 b5 0 [(I v3),(I v4)] (fun H7=>B5 P x3 x4 x5 b5 H7)))))
def o7:=O 15102
def B7 (P:PT):Y k0:=fun x3 x4 x5 H=>
  sliceK H 28 x5 (some (I 1)) none 2 (fun v1=>B1 P x3 x4 v1 H)
abbrev k3:Sk:=[(3,.x),(4,.x)]
def B8 (P:PT):Y k3:=fun x3 x4 H=>
  li H x3 0 (fun v1=>ld1 H x3 1 (fun v2=>stK H x4 0 [(I v1),v2] (fun H3=>li H3 x4 0 (fun v4=>ld1 H3 x4 1 (fun v5=>P (agg ⟨[(I v4),v5]⟩) H3)))))
abbrev k4:Sk:=[(3,.x),(4,.x),(5,.v),(12,J)]
def B9 (P:PT):Y k4:=fun x3 x4 x5 x12 H=>
  pif ((x12:Int)==3) (B7 P x3 x4 x5 H) (B8 P x3 x4 H)
def B10 (P:PT):Y k4:=fun x3 x4 x5 x12 H=>
  pif ((x12:Int)==2) (B6 P x3 x4 x5 H) (B9 P x3 x4 x5 x12 H)
abbrev k5:Sk:=[(0,.v),(3,.x),(4,.x),(5,.v),(12,J)]
def B11 (P:PT):Y k5:=fun x0 x3 x4 x5 x12 H=>
  pif ((x12:Int)==1) (B3 P x0 x3 x4 x5 H) (B10 P x3 x4 x5 x12 H)
def B12 (P:PT):Y k5:=fun x0 x3 x4 x5 x12 H=>
  pif ((x12:Int)==0) (B2 P x0 x3 x4 x5 H) (B11 P x0 x3 x4 x5 x12 H)
def B13 (P:PT):Y k1:=fun x0 x3 x4 x5 H=>
  A 88 [x0,(I 50)] H (fun v1 H2=>asI .i64 v1 (fun v3=>B12 P x0 x3 x4 x5 v3 H2))
abbrev k6:Sk:=[(0,.v),(3,.x),(4,.x)]
def B14 (P:PT):Y k6:=fun x0 x3 x4 H=>
  newK H [] 28 (fun b1 H2=>ld1 H2 x3 1 (fun v3=>apK T0 28 H2 (slice (some ⟨b1,0,none⟩) 0 (0+1)) v3 (fun v4 H5=>B13 P x0 x3 x4 v4 H5)))
abbrev k7:Sk:=[(0,.v),(1,.g [.i,.v])]
def B15 (P:PT):Y k7:=fun x0 x1a x1b H=>
  newK H [(I x1a),x1b] 31 (fun b1 H2=>newK H2 [(I 0),(slice none 0 0)] 31 (fun b3 H4=>B14 P x0 b1 b3 H4))
def code:Code:=(.seq (R 0 2) (.seq (R 1 6) (.seq (.seq (R 2 28) (.block 0 (.seq (R 4 116) (.cond (.tmp 14) (.seq (R 5 468) .ret) (.seq (R 6 470) (.cond (.tmp 24) (.region 7 ⟨o3⟩ true) (.seq (R 8 1886) (.cond (.tmp 42) (.seq (R 9 7548) (.seq (R 10 15098) (R 11 15099))) (.seq (R 12 7550) (.cond (.tmp 61) (R 13 15102) (.seq (R 3 30206) .ret))))))))))) (.seq (R 14 30) .ret))))
theorem body:Tryz.f152.body=some code:=by kernel_rfl
theorem main P:Z 69 k7 (B15 P) code (ret P):=
  (r_seq (b (E k6 (B14 P))) (r_seq (b (E k1 (B13 P))) (r_seq (r_seq (b (E k5 (B12 P))) (r_block (r_seq (b (cnd 14 (E k1 (B2 P)) (E k5 (B11 P)))) (r_cond rfl (r_seq (b (ret P)) r_ret) (r_seq (b (cnd 24 (E k1 (B3 P)) (E k4 (B10 P)))) (r_cond rfl (rT T0_ok mixed (.op 0 [] (.op 1 [] (.op 2 [] (.op 3 [] (.op 5 [] (.op 6 [] (.op 7 [] (.op 9 [] (.op 10 [] (.op 11 [] (.alt (.op 4 [7,11] (.alt (.op 8 [11] (.op 12 [] (.op 13 [] (.op 14 [] (.op 15 [] (.op 16 [] .done)))))) (.op 12 [] (.op 8 [11] (.op 13 [] (.op 14 [] (.op 15 [] (.op 16 [] .done)))))))) (.op 12 [] (.op 4 [7,11] (.op 8 [11] (.op 13 [] (.op 14 [] (.op 15 [] (.op 16 [] .done)))))))))))))))))) (by kernel_rfl) (q3 P)) (r_seq (b (cnd 42 (E k0 (B6 P)) (E k4 (B9 P)))) (r_cond rfl (r_seq (b (E k2 (B5 P))) (r_seq (b (E k2 (B4 P))) (b (E k0 (B1 P))))) (r_seq (b (cnd 61 (E k0 (B7 P)) (E k3 (B8 P)))) (r_cond rfl (b (E k0 (B1 P))) (r_seq (b (ret P)) r_ret))))))))))) (r_seq (b (ret P)) r_ret))))
theorem ac (P:PT) (x0:Value) (x1a:Int) (x1b:Value) (H:AHeap) (h:B15 P x0 x1a x1b H):A 152 [x0,(agg ⟨[(I x1a),x1b]⟩)] H P:=
  r_fn T0_ok (c:=code) (n:=69) Tryz.func152 body (by kernel_rfl) (main P) (En_mk (x0,x1a,x1b,()) (by kernel_rfl) ⟨by kernel_rfl,by kernel_rfl,trivial⟩ h)

end F152
namespace F153
abbrev E:=En 40
def O (k:Nat):=ob Tryz.f153 (pth k)
abbrev R (i k:Nat):Code:=.region i ⟨O k⟩ false
def ret (P:PT):EP:=retE T0 40 Tryz.f153 P
abbrev k0:Sk:=[(0,.v),(2,.x)]
def B1 (P:PT):Y k0:=fun x0 x2 H=>
  newK H [(I 2),(I 4),(I 6),(I 8),(I 10),(I 12),(I 14),(I 20)] 2 (fun b1 H2=>A 159 [x0,(slice (some ⟨b1,0,none⟩) 8 (8+1))] H2 (fun v3 H4=>asI .i64 v3 (fun v5=>A 185 [x0,(I v5)] H4 (fun v6 H7=>agg2 v6 (fun v8 v9=>asI .i64 v8 (fun v10=>stK H7 x2 0 [(I v10),v9] (fun H12=>li H12 x2 0 (fun v13=>ld1 H12 x2 1 (fun v14=>P (agg ⟨[(I v13),v14]⟩) H12)))))))))
def B2 (P:PT):Y k0:=fun x0 x2 H=>
  A 142 [x0] H (fun v1 H2=>agg2 v1 (fun v3 v4=>asI .i64 v3 (fun v5=>A 142 [x0] H2 (fun v7 H8=>agg2 v7 (fun v9 v10=>asI .i64 v9 (fun v11=>A 189 [(agg ⟨[(I v5),v4]⟩),(agg ⟨[(I v11),v10]⟩)] H8 (fun v13 H14=>agg2 v13 (fun v15 v16=>asI .i64 v15 (fun v17=>stK H14 x2 0 [(I v17),v16] (fun H19=>li H19 x2 0 (fun v20=>ld1 H19 x2 1 (fun v21=>P (agg ⟨[(I v20),v21]⟩) H19))))))))))))
def B3 (P:PT):Y k0:=fun x0 x2 H=>
  A 88 [x0,(I 8)] H (fun v1 H2=>asI .i64 v1 (fun v3=>pif ((v3:Int)==0) (B2 P x0 x2 H2) (B1 P x0 x2 H2)))
abbrev k1:Sk:=[(0,.v),(2,.x),(4,.x)]
def o4:=O 214
def B4 (P:PT):Y k1:=fun x0 x2 x4 H=>
  li H x4 0 (fun v1=>ld1 H x4 1 (fun v2=>li H x4 0 (fun v3=>A 184 [x0,(I v3)] H (fun v4 H5=>(li H5 x4 0 (fun v7=>ld1 H5 x4 1 (fun v8=>((agg ⟨[(I v7),v8]⟩)=(agg ⟨[(I v1),v2]⟩))∧(H5=H5))))∧(A 183 [(agg ⟨[(I v1),v2]⟩),v4] H5 (fun v9 H10=>agg2 v9 (fun v11 v12=>asI .i64 v11 (fun v13=>stK H10 x2 0 [(I v13),v12] (fun H15=>li H15 x2 0 (fun v16=>ld1 H15 x2 1 (fun v17=>P (agg ⟨[(I v16),v17]⟩) H15)))))))))))
theorem q4 (P:PT):QT Tryz.prog T0 40 o4 (.op 0 [] (.op 1 [] (.op 2 [] (.op 3 [] (.op 4 [0] (.op 5 [] (.op 6 [] .done))))))) (ret P) k1 (B4 P):=fun _ _ _ _ _  => by kernel_rfl
abbrev k2:Sk:=[(0,.v),(2,.x),(3,.v)]
def B5 (P:PT):Y k2:=fun x0 x2 x3 H=>
  lenK x3 (fun n1=>A 88 [x0,(I (n1:Int))] H (fun v2 H3=>asI .i64 v2 (fun v4=>idxK x3 v4 1 (fun b5 o6=>ld1 H3 b5 o6 (fun v8=>asS v8 (fun v7=>A 182 [(string v7)] H3 (fun v9 H10=>tup2 v9 (fun v11 v12=>agg2 v11 (fun v13 v14=>asI .i64 v13 (fun v15=>asB v12 (fun v17=>newK H10 [(I 0),(slice none 0 0)] 31 (fun b18 H19=>stK H19 b18 0 [(I v15),v14] (fun H20=>B4 P x0 x2 b18 H20)))))))))))))
def o6:=O 52
def B6 (P:PT):Y k0:=fun x0 x2 H=>
  A 188 [] H (fun v1 H2=>B5 P x0 x2 v1 H2)
def B7 (P:PT):Y k0:=fun x0 x2 H=>
  A 88 [x0,(I 3)] H (fun v1 H2=>asI .i64 v1 (fun v3=>pif ((v3:Int)==0) (B6 P x0 x2 H2) (B3 P x0 x2 H2)))
abbrev k3:Sk:=[(0,.v)]
def B8 (P:PT):Y k3:=fun x0 H=>
  newK H [(I 0),(slice none 0 0)] 31 (fun b1 H2=>B7 P x0 b1 H2)
def code:Code:=(.seq (R 0 2) (.seq (.seq (R 1 12) (.cond (.tmp 8) (.seq (R 2 52) (.seq (R 3 106) (.seq (.region 4 ⟨o4⟩ true) .ret))) .skip)) (.seq (.seq (R 5 28) (.cond (.tmp 29) (.seq (R 6 116) .ret) .skip)) (.seq (R 7 30) .ret))))
theorem body:Tryz.f153.body=some code:=by kernel_rfl
theorem main P:Z 40 k3 (B8 P) code (ret P):=
  (r_seq (b (E k0 (B7 P))) (r_seq (r_seq (b (cnd 8 (E k0 (B6 P)) (E k0 (B3 P)))) (r_cond rfl (r_seq (b (E k2 (B5 P))) (r_seq (b (E k1 (B4 P))) (r_seq (rT T0_ok mixed (.op 0 [] (.op 1 [] (.op 2 [] (.op 3 [] (.op 4 [0] (.op 5 [] (.op 6 [] .done))))))) (by kernel_rfl) (q4 P)) r_ret))) r_skip)) (r_seq (r_seq (b (cnd 29 (E k0 (B2 P)) (E k0 (B1 P)))) (r_cond rfl (r_seq (b (ret P)) r_ret) r_skip)) (r_seq (b (ret P)) r_ret))))
theorem ac (P:PT) (x0:Value) (H:AHeap) (h:B8 P x0 H):A 153 [x0] H P:=
  r_fn T0_ok (c:=code) (n:=40) Tryz.func153 body (by kernel_rfl) (main P) (En_mk (x0,()) (by kernel_rfl) ⟨by kernel_rfl,trivial⟩ h)

end F153
namespace F154
abbrev E:=En 17
def O (k:Nat):=ob Tryz.f154 (pth k)
abbrev R (i k:Nat):Code:=.region i ⟨O k⟩ false
def ret (P:PT):EP:=retE T0 17 Tryz.f154 P
abbrev k0:Sk:=[(3,.v)]
def B1 (P:PT):Y k0:=fun x3 H=>
  P x3 H
abbrev k1:Sk:=[(3,.v),(7,J),(8,J)]
def B3 (P:PT) (N2:Y k1):Y k1:=fun x3 x7 x8 H=>
  N2 x3 x7 (i64.wrap (x8+1)) H
abbrev k2:Sk:=[(3,.v),(4,J),(7,J),(8,J)]
def B4 (P:PT) (N2:Y k1):Y k2:=fun x3 x4 x7 x8 H=>
  newK H [(I x4)] 2 (fun b1 H2=>apK T0 2 H2 x3 (slice (some ⟨b1,0,none⟩) 1 (1+1)) (fun v3 H4=>B3 P N2 v3 x7 x8 H4))
def B5 (P:PT) (N2:Y k1):Y k1:=fun x3 x7 x8 H=>
  B4 P N2 x3 x8 x7 x8 H
def B6 (P:PT) (N2:Y k1):Y k1:=fun x3 x7 x8 H=>
  pif (decide ((x8:Int)<x7)) (B5 P N2 x3 x7 x8 H) (B1 P x3 H)
def L2 (P:PT):Y k1:=fun x3 x7 x8 H=>
  ∃ (I:Y k1) (μ:NTy k1 (AHeap→Nat)),I x3 x7 x8 H∧∀ y3 y7 y8 G,I y3 y7 y8 G→B6 P (fun z3 z7 z8 G'=>I z3 z7 z8 G'∧μ z3 z7 z8 G'<μ y3 y7 y8 G) y3 y7 y8 G
theorem l2 P:LQ k1 (L2 P) (B6 P):=fun ⟨_,_,_,_⟩ _ ⟨I,μ,h0,hI⟩=>⟨apT _ I,apT _ μ,h0,fun ⟨_,_,_,_⟩ _ h=>hI _ _ _ _  h⟩
abbrev k3:Sk:=[(1,.x),(3,.v)]
def B7 (P:PT):Y k3:=fun x1 x3 H=>
  ld1 H x1 1 (fun v1=>lenK v1 (fun n2=>L2 P x3 (n2:Int) 0 H))
abbrev k4:Sk:=[(1,.x)]
def B8 (P:PT):Y k4:=fun x1 H=>
  B7 P x1 (slice none 0 0) H
abbrev k5:Sk:=[(0,.g [.i,.v])]
def B9 (P:PT):Y k5:=fun x0a x0b H=>
  newK H [(I x0a),x0b] 31 (fun b1 H2=>B8 P b1 H2)
def code:Code:=(.seq (R 0 2) (.seq (R 1 6) (.seq (.seq (R 2 28) (.block 0 (.loop (.seq (R 3 232) (.seq (.cond (.tmp 9) .skip (.exit 0)) (.seq (.block 1 (.seq (R 4 3736) (R 5 3737))) (R 6 935))))))) (.seq (R 7 30) .ret))))
theorem body:Tryz.f154.body=some code:=by kernel_rfl
theorem main P:Z 17 k5 (B9 P) code (ret P):=
  (r_seq (b (E k4 (B8 P))) (r_seq (b (E k3 (B7 P))) (r_seq (r_seq (b (E k1 (L2 P))) (r_block (rL (l2 P) (fun N2=>(r_seq (b (cnd 9 (E k1 (B5 P N2)) (E k0 (B1 P)))) (r_seq (r_cond rfl r_skip (r_exit (fun _ _ h=>h))) (r_seq (r_block (r_seq (b (E k2 (B4 P N2))) (b (E k1 (B3 P N2))))) (b (E k1 N2))))))))) (r_seq (b (ret P)) r_ret))))
theorem ac (P:PT) (x0a:Int) (x0b:Value) (H:AHeap) (h:B9 P x0a x0b H):A 154 [(agg ⟨[(I x0a),x0b]⟩)] H P:=
  r_fn T0_ok (c:=code) (n:=17) Tryz.func154 body (by kernel_rfl) (main P) (En_mk (x0a,x0b,()) (by kernel_rfl) ⟨by kernel_rfl,trivial⟩ h)

end F154
namespace F155
abbrev E:=En 16
def O (k:Nat):=ob Tryz.f155 (pth k)
abbrev R (i k:Nat):Code:=.region i ⟨O k⟩ false
def ret (P:PT):EP:=retE T0 16 Tryz.f155 P
abbrev k0:Sk:=[(0,J),(1,.v),(2,.v),(3,.v)]
def B1 (P:PT):Y k0:=fun x0 x1 x2 x3 H=>
  asP x1 (fun b1 o2=>li H b1 o2 (fun v3=>ld1 H b1 (o2+1) (fun v4=>asP x2 (fun b5 o6=>li H b5 o6 (fun v7=>A 149 [(agg ⟨[(I v3),v4]⟩),(I v7),(I x0)] H (fun v8 H9=>asB v8 (fun v10=>pif v10 (asP x1 (fun b11 o12=>li H9 b11 o12 (fun v13=>ld1 H9 b11 (o12+1) (fun v14=>asP x3 (fun b15 o16=>li H9 b15 o16 (fun v17=>A 149 [(agg ⟨[(I v13),v14]⟩),(I x0),(I v17)] H9 (fun v18 H19=>asB v18 (fun v20=>P (bool v20) H19)))))))) (P (bool false) H9))))))))
def o2:=O 2
def B2 (P:PT):Y k0:=fun x0 x1 x2 x3 H=>
  B1 P x0 x1 x2 x3 H
def code:Code:=(.seq (R 0 2) (.seq (R 1 6) .ret))
theorem body:Tryz.f155.body=some code:=by kernel_rfl
theorem main P:Z 16 k0 (B2 P) code (ret P):=
  (r_seq (b (E k0 (B1 P))) (r_seq (b (ret P)) r_ret))
theorem ac (P:PT) (x0:Int) (x1 x2 x3:Value) (H:AHeap) (h:B2 P x0 x1 x2 x3 H):A 155 [(I x0),x1,x2,x3] H P:=
  r_fn T0_ok (c:=code) (n:=16) Tryz.func155 body (by kernel_rfl) (main P) (En_mk (x0,x1,x2,x3,()) (by kernel_rfl) ⟨by kernel_rfl,by kernel_rfl,by kernel_rfl,by kernel_rfl,trivial⟩ h)

end F155
namespace F159
abbrev E:=En 12
def O (k:Nat):=ob Tryz.f159 (pth k)
abbrev R (i k:Nat):Code:=.region i ⟨O k⟩ false
def ret (P:PT):EP:=retE T0 12 Tryz.f159 P
abbrev k0:Sk:=[(0,.v),(1,.v)]
def B1 (P:PT):Y k0:=fun x0 x1 H=>
  lenK x1 (fun n1=>A 88 [x0,(I (n1:Int))] H (fun v2 H3=>asI .i64 v2 (fun v4=>idxK x1 v4 1 (fun b5 o6=>li H3 b5 o6 (fun v7=>P (I v7) H3)))))
def B2 (P:PT):Y k0:=fun x0 x1 H=>
  B1 P x0 x1 H
def code:Code:=(.seq (R 0 2) (.seq (R 1 6) .ret))
theorem body:Tryz.f159.body=some code:=by kernel_rfl
theorem main P:Z 12 k0 (B2 P) code (ret P):=
  (r_seq (b (E k0 (B1 P))) (r_seq (b (ret P)) r_ret))
theorem ac (P:PT) (x0 x1:Value) (H:AHeap) (h:B2 P x0 x1 H):A 159 [x0,x1] H P:=
  r_fn T0_ok (c:=code) (n:=12) Tryz.func159 body (by kernel_rfl) (main P) (En_mk (x0,x1,()) (by kernel_rfl) ⟨by kernel_rfl,by kernel_rfl,trivial⟩ h)

end F159
namespace F162
abbrev E:=En 81
def O (k:Nat):=ob Tryz.f162 (pth k)
abbrev R (i k:Nat):Code:=.region i ⟨O k⟩ false
def ret (P:PT):EP:=retE T0 81 Tryz.f162 P
abbrev k0:Sk:=[(5,.v)]
def B1 (P:PT):Y k0:=fun x5 H=>
  P x5 H
abbrev k1:Sk:=[(1,.i .u64),(2,.x),(5,.v),(15,.v),(16,J),(17,J)]
def o3:=O 935
def B3 (P:PT) (N2:Y k1):Y k1:=fun x1 x2 x5 x15 x16 x17 H=>
  N2 x1 x2 x5 x15 x16 (i64.wrap (x17+1)) H
abbrev k2:Sk:=[(1,.i .u64),(2,.x),(5,.v),(8,.i .u64),(15,.v),(16,J),(17,J)]
def B4 (P:PT) (N2:Y k1):Y k2:=fun x1 x2 x5 x8 x15 x16 x17 H=>
  newK H [(int .u64 x8)] 83 (fun b1 H2=>apK T0 83 H2 x5 (slice (some ⟨b1,0,none⟩) 1 (1+1)) (fun v3 H4=>B3 P N2 x1 x2 v3 x15 x16 x17 H4))
abbrev k3:Sk:=[(1,.i .u64),(2,.x),(5,.v),(8,.i .u64),(9,.v),(15,.v),(16,J),(17,J)]
def o6:=O 956883
def B6 (P:PT) (N2:Y k1) (N5:Y k3):Y k3:=fun x1 x2 x5 x8 x9 x15 x16 x17 H=>
  sliceK H 2 x9 (some (I 1)) none 1 (fun v1=>N5 x1 x2 x5 x8 v1 x15 x16 x17 H)
abbrev k4:Sk:=[(1,.i .u64),(2,.x),(5,.v),(8,.i .u64),(9,.v),(15,.v),(16,J),(17,J),(44,.g [.i,.i]),(45,J)]
def B8 (P:PT) (N2:Y k1) (N5:Y k3) (N7:Y k4):Y k4:=fun x1 x2 x5 x8 x9 x15 x16 x17 x44a x44b x45 H=>
  N7 x1 x2 x5 x8 x9 x15 x16 x17 x44a x44b (i64.wrap (x45+1)) H
abbrev k5:Sk:=[(1,.i .u64),(2,.x),(5,.v),(8,.i .u64),(9,.v),(15,.v),(16,J),(17,J),(44,.g [.i,.i]),(45,J),(50,.v),(51,J),(52,J)]
def B10 (P:PT) (N2:Y k1) (N5:Y k3) (N7:Y k4) (N9:Y k5):Y k5:=fun x1 x2 x5 x8 x9 x15 x16 x17 x44a x44b x45 x50 x51 x52 H=>
  N9 x1 x2 x5 x8 x9 x15 x16 x17 x44a x44b x45 x50 x51 (i64.wrap (x52+1)) H
abbrev k6:Sk:=[(1,.i .u64),(2,.x),(5,.v),(8,.i .u64),(9,.v),(13,J),(15,.v),(16,J),(17,J),(44,.g [.i,.i]),(45,J),(50,.v),(51,J),(52,J)]
def B11 (P:PT) (N2:Y k1) (N5:Y k3) (N7:Y k4) (N9:Y k5):Y k6:=fun x1 x2 x5 x8 x9 x13 x15 x16 x17 x44a x44b x45 x50 x51 x52 H=>
  newK H [(I x13)] 2 (fun b1 H2=>apK T0 2 H2 x9 (slice (some ⟨b1,0,none⟩) 1 (1+1)) (fun v3 H4=>B10 P N2 N5 N7 N9 x1 x2 x5 x8 v3 x15 x16 x17 x44a x44b x45 x50 x51 x52 H4))
def B12 (P:PT) (N2:Y k1) (N5:Y k3) (N7:Y k4) (N9:Y k5):Y k6:=fun x1 x2 x5 x8 x9 x13 x15 x16 x17 x44a x44b x45 x50 x51 x52 H=>
  ((0:Int)≤x13)∧(B11 P N2 N5 N7 N9 x1 x2 x5 (u64.wrap (BitVec.ofInt 64 x8|||BitVec.ofInt 64 (u64.wrap (1*2^(min (Int.toNat x13) 64)))).toNat) x9 x13 x15 x16 x17 x44a x44b x45 x50 x51 x52 H)
def B13 (P:PT) (N2:Y k1) (N5:Y k3) (N7:Y k4) (N9:Y k5):Y k6:=fun x1 x2 x5 x8 x9 x13 x15 x16 x17 x44a x44b x45 x50 x51 x52 H=>
  A 144 [(int .u64 x1),(I x13)] H (fun v1 H2=>asB v1 (fun v3=>pif v3 (A 144 [(int .u64 x8),(I x13)] H2 (fun v4 H5=>asB v4 (fun v6=>pif (!v6) (B12 P N2 N5 N7 N9 x1 x2 x5 x8 x9 x13 x15 x16 x17 x44a x44b x45 x50 x51 x52 H5) (B10 P N2 N5 N7 N9 x1 x2 x5 x8 x9 x15 x16 x17 x44a x44b x45 x50 x51 x52 H5)))) (B10 P N2 N5 N7 N9 x1 x2 x5 x8 x9 x15 x16 x17 x44a x44b x45 x50 x51 x52 H2)))
def B14 (P:PT) (N2:Y k1) (N5:Y k3) (N7:Y k4) (N9:Y k5):Y k5:=fun x1 x2 x5 x8 x9 x15 x16 x17 x44a x44b x45 x50 x51 x52 H=>
  idxK x50 x52 1 (fun b1 o2=>li H b1 o2 (fun v3=>B13 P N2 N5 N7 N9 x1 x2 x5 x8 x9 v3 x15 x16 x17 x44a x44b x45 x50 x51 x52 H))
def B15 (P:PT) (N2:Y k1) (N5:Y k3) (N7:Y k4) (N9:Y k5):Y k5:=fun x1 x2 x5 x8 x9 x15 x16 x17 x44a x44b x45 x50 x51 x52 H=>
  pif (decide ((x52:Int)<x51)) (B14 P N2 N5 N7 N9 x1 x2 x5 x8 x9 x15 x16 x17 x44a x44b x45 x50 x51 x52 H) (B8 P N2 N5 N7 x1 x2 x5 x8 x9 x15 x16 x17 x44a x44b x45 H)
def L9 (P:PT) (N2:Y k1) (N5:Y k3) (N7:Y k4):Y k5:=fun x1 x2 x5 x8 x9 x15 x16 x17 x44a x44b x45 x50 x51 x52 H=>
  ∃ (I:Y k5) (μ:NTy k5 (AHeap→Nat)),I x1 x2 x5 x8 x9 x15 x16 x17 x44a x44b x45 x50 x51 x52 H∧∀ y1 y2 y5 y8 y9 y15 y16 y17 y44a y44b y45 y50 y51 y52 G,I y1 y2 y5 y8 y9 y15 y16 y17 y44a y44b y45 y50 y51 y52 G→B15 P N2 N5 N7 (fun z1 z2 z5 z8 z9 z15 z16 z17 z44a z44b z45 z50 z51 z52 G'=>I z1 z2 z5 z8 z9 z15 z16 z17 z44a z44b z45 z50 z51 z52 G'∧μ z1 z2 z5 z8 z9 z15 z16 z17 z44a z44b z45 z50 z51 z52 G'<μ y1 y2 y5 y8 y9 y15 y16 y17 y44a y44b y45 y50 y51 y52 G) y1 y2 y5 y8 y9 y15 y16 y17 y44a y44b y45 y50 y51 y52 G
theorem l9 P N2 N5 N7:LQ k5 (L9 P N2 N5 N7) (B15 P N2 N5 N7):=fun ⟨_,_,_,_,_,_,_,_,_,_,_,_,_,_,_⟩ _ ⟨I,μ,h0,hI⟩=>⟨apT _ I,apT _ μ,h0,fun ⟨_,_,_,_,_,_,_,_,_,_,_,_,_,_,_⟩ _ h=>hI _ _ _ _ _ _ _ _ _ _ _ _ _ _ _  h⟩
abbrev k7:Sk:=[(1,.i .u64),(2,.x),(5,.v),(8,.i .u64),(9,.v),(11,J),(15,.v),(16,J),(17,J),(44,.g [.i,.i]),(45,J)]
def B16 (P:PT) (N2:Y k1) (N5:Y k3) (N7:Y k4):Y k7:=fun x1 x2 x5 x8 x9 x11 x15 x16 x17 x44a x44b x45 H=>
  li H x2 0 (fun v1=>ld1 H x2 1 (fun v2=>A 112 [(agg ⟨[(I v1),v2]⟩),(I x11)] H (fun v3 H4=>lenK v3 (fun n6=>L9 P N2 N5 N7 x1 x2 x5 x8 x9 x15 x16 x17 x44a x44b x45 v3 (n6:Int) 0 H4))))
def B17 (P:PT) (N2:Y k1) (N5:Y k3) (N7:Y k4):Y k4:=fun x1 x2 x5 x8 x9 x15 x16 x17 x44a x44b x45 H=>
  bndK x45 2 (atK [(I x44a),(I x44b)] (Int.toNat x45*1) (fun v1=>asI .i64 v1 (fun v2=>B16 P N2 N5 N7 x1 x2 x5 x8 x9 v2 x15 x16 x17 x44a x44b x45 H)))
def B18 (P:PT) (N2:Y k1) (N5:Y k3) (N7:Y k4):Y k4:=fun x1 x2 x5 x8 x9 x15 x16 x17 x44a x44b x45 H=>
  pif (decide ((x45:Int)<2)) (B17 P N2 N5 N7 x1 x2 x5 x8 x9 x15 x16 x17 x44a x44b x45 H) (B6 P N2 N5 x1 x2 x5 x8 x9 x15 x16 x17 H)
def L7 (P:PT) (N2:Y k1) (N5:Y k3):Y k4:=fun x1 x2 x5 x8 x9 x15 x16 x17 x44a x44b x45 H=>
  ∃ (I:Y k4) (μ:NTy k4 (AHeap→Nat)),I x1 x2 x5 x8 x9 x15 x16 x17 x44a x44b x45 H∧∀ y1 y2 y5 y8 y9 y15 y16 y17 y44a y44b y45 G,I y1 y2 y5 y8 y9 y15 y16 y17 y44a y44b y45 G→B18 P N2 N5 (fun z1 z2 z5 z8 z9 z15 z16 z17 z44a z44b z45 G'=>I z1 z2 z5 z8 z9 z15 z16 z17 z44a z44b z45 G'∧μ z1 z2 z5 z8 z9 z15 z16 z17 z44a z44b z45 G'<μ y1 y2 y5 y8 y9 y15 y16 y17 y44a y44b y45 G) y1 y2 y5 y8 y9 y15 y16 y17 y44a y44b y45 G
theorem l7 P N2 N5:LQ k4 (L7 P N2 N5) (B18 P N2 N5):=fun ⟨_,_,_,_,_,_,_,_,_,_,_,_⟩ _ ⟨I,μ,h0,hI⟩=>⟨apT _ I,apT _ μ,h0,fun ⟨_,_,_,_,_,_,_,_,_,_,_,_⟩ _ h=>hI _ _ _ _ _ _ _ _ _ _ _ _  h⟩
def o19:=O 3827528
def B19 (P:PT) (N2:Y k1) (N5:Y k3):Y k3:=fun x1 x2 x5 x8 x9 x15 x16 x17 H=>
  ld1 H x2 1 (fun v1=>idxK x9 0 1 (fun b2 o3=>li H b2 o3 (fun v4=>idxK v1 v4 2 (fun b5 o6=>li H b5 o6 (fun v7=>li H b5 (o6+1) (fun v8=>L7 P N2 N5 x1 x2 x5 x8 x9 x15 x16 x17 v7 v8 0 H))))))
theorem q19 (P:PT) (N2:Y k1) (N5:Y k3):QD Tryz.prog T0 81 o19 [(0,false),(1,false),(2,false),(3,false),(4,false),(5,false),(6,false),(7,false)] (En 81 k4 (L7 P N2 N5)) k3 (B19 P N2 N5):=fun _ _ _ _ _ _ _ _ _ _  => by kernel_rfl
def B20 (P:PT) (N2:Y k1) (N5:Y k3):Y k3:=fun x1 x2 x5 x8 x9 x15 x16 x17 H=>
  lenK x9 (fun n1=>pif (decide (((n1:Int):Int)>0)) (B19 P N2 N5 x1 x2 x5 x8 x9 x15 x16 x17 H) (B4 P N2 x1 x2 x5 x8 x15 x16 x17 H))
def L5 (P:PT) (N2:Y k1):Y k3:=fun x1 x2 x5 x8 x9 x15 x16 x17 H=>
  ∃ (I:Y k3) (μ:NTy k3 (AHeap→Nat)),I x1 x2 x5 x8 x9 x15 x16 x17 H∧∀ y1 y2 y5 y8 y9 y15 y16 y17 G,I y1 y2 y5 y8 y9 y15 y16 y17 G→B20 P N2 (fun z1 z2 z5 z8 z9 z15 z16 z17 G'=>I z1 z2 z5 z8 z9 z15 z16 z17 G'∧μ z1 z2 z5 z8 z9 z15 z16 z17 G'<μ y1 y2 y5 y8 y9 y15 y16 y17 G) y1 y2 y5 y8 y9 y15 y16 y17 G
theorem l5 P N2:LQ k3 (L5 P N2) (B20 P N2):=fun ⟨_,_,_,_,_,_,_,_,_⟩ _ ⟨I,μ,h0,hI⟩=>⟨apT _ I,apT _ μ,h0,fun ⟨_,_,_,_,_,_,_,_,_⟩ _ h=>hI _ _ _ _ _ _ _ _ _  h⟩
abbrev k8:Sk:=[(1,.i .u64),(2,.x),(5,.v),(7,.x),(8,.i .u64),(15,.v),(16,J),(17,J)]
def B21 (P:PT) (N2:Y k1):Y k8:=fun x1 x2 x5 x7 x8 x15 x16 x17 H=>
  li H x7 0 (fun v1=>newK H [(I v1)] 2 (fun b2 H3=>L5 P N2 x1 x2 x5 x8 (slice (some ⟨b2,0,none⟩) 1 (1+1)) x15 x16 x17 H3))
abbrev k9:Sk:=[(1,.i .u64),(2,.x),(5,.v),(7,.x),(15,.v),(16,J),(17,J)]
def B22 (P:PT) (N2:Y k1):Y k9:=fun x1 x2 x5 x7 x15 x16 x17 H=>
  li H x7 0 (fun v1=>((0:Int)≤v1)∧(B21 P N2 x1 x2 x5 x7 (u64.wrap (1*2^(min (Int.toNat v1) 64))) x15 x16 x17 H))
def B23 (P:PT) (N2:Y k1):Y k9:=fun x1 x2 x5 x7 x15 x16 x17 H=>
  lenK x5 (fun n1=>pif (decide (((n1:Int):Int)>0)) (A 190 [x5,(func (.func 191) ⟨[]⟩ ⟨[(pointer (some ⟨x7,0,none⟩))]⟩)] H (fun v2 H3=>asB v2 (fun v4=>pif v4 (B3 P N2 x1 x2 x5 x15 x16 x17 H3) (B22 P N2 x1 x2 x5 x7 x15 x16 x17 H3)))) (B22 P N2 x1 x2 x5 x7 x15 x16 x17 H))
def B24 (P:PT) (N2:Y k1):Y k1:=fun x1 x2 x5 x15 x16 x17 H=>
  idxK x15 x17 1 (fun b1 o2=>li H b1 o2 (fun v3=>newK H [(I 0)] 2 (fun b4 H5=>stK H5 b4 0 [(I v3)] (fun H6=>B23 P N2 x1 x2 x5 b4 x15 x16 x17 H6))))
def B25 (P:PT) (N2:Y k1):Y k1:=fun x1 x2 x5 x15 x16 x17 H=>
  pif (decide ((x17:Int)<x16)) (B24 P N2 x1 x2 x5 x15 x16 x17 H) (B1 P x5 H)
def L2 (P:PT):Y k1:=fun x1 x2 x5 x15 x16 x17 H=>
  ∃ (I:Y k1) (μ:NTy k1 (AHeap→Nat)),I x1 x2 x5 x15 x16 x17 H∧∀ y1 y2 y5 y15 y16 y17 G,I y1 y2 y5 y15 y16 y17 G→B25 P (fun z1 z2 z5 z15 z16 z17 G'=>I z1 z2 z5 z15 z16 z17 G'∧μ z1 z2 z5 z15 z16 z17 G'<μ y1 y2 y5 y15 y16 y17 G) y1 y2 y5 y15 y16 y17 G
theorem l2 P:LQ k1 (L2 P) (B25 P):=fun ⟨_,_,_,_,_,_,_⟩ _ ⟨I,μ,h0,hI⟩=>⟨apT _ I,apT _ μ,h0,fun ⟨_,_,_,_,_,_,_⟩ _ h=>hI _ _ _ _ _ _ _  h⟩
abbrev k10:Sk:=[(1,.i .u64),(2,.x),(5,.v)]
def B26 (P:PT):Y k10:=fun x1 x2 x5 H=>
  A 80 [(int .u64 x1)] H (fun v1 H2=>lenK v1 (fun n4=>L2 P x1 x2 x5 v1 (n4:Int) 0 H2))
abbrev k11:Sk:=[(1,.i .u64),(2,.x)]
def B27 (P:PT):Y k11:=fun x1 x2 H=>
  B26 P x1 x2 (slice none 0 0) H
abbrev k12:Sk:=[(0,.g [.i,.v]),(1,.i .u64)]
def B28 (P:PT):Y k12:=fun x0a x0b x1 H=>
  newK H [(I x0a),x0b] 31 (fun b1 H2=>B27 P x1 b1 H2)
def code:Code:=(.seq (R 0 2) (.seq (R 1 6) (.seq (.seq (R 2 28) (.block 0 (.loop (.seq (R 3 232) (.seq (.cond (.tmp 18) .skip (.exit 0)) (.seq (.block 1 (.seq (R 4 3736) (.seq (.seq (R 5 14948) (.cond (.tmp 28) (.exit 1) .skip)) (.seq (R 6 14950) (.seq (.seq (R 7 59804) (.block 2 (.loop (.seq (.seq (R 8 956880) (.cond (.tmp 35) .skip (.exit 2))) (.seq (.block 3 (.seq (.region 10 ⟨o19⟩ true) (.block 4 (.loop (.seq (R 11 30620232) (.seq (.cond (.tmp 46) .skip (.exit 4)) (.seq (.block 5 (.seq (R 12 489923736) (.seq (R 13 979847474) (.block 6 (.loop (.seq (R 14 7838779800) (.seq (.cond (.tmp 53) .skip (.exit 6)) (.seq (.block 7 (.seq (R 15 125420476824) (.seq (R 16 250840953650) (.cond (.tmp 64) (.seq (R 17 1003363814604) (R 18 1003363814605)) .skip)))) (R 19 31355119207))))))))) (R 20 122480935)))))))) (R 9 956883)))))) (R 21 29903)))))) (R 22 935))))))) (.seq (R 23 30) .ret))))
theorem body:Tryz.f162.body=some code:=by kernel_rfl
theorem main P:Z 81 k12 (B28 P) code (ret P):=
  (r_seq (b (E k11 (B27 P))) (r_seq (b (E k10 (B26 P))) (r_seq (r_seq (b (E k1 (L2 P))) (r_block (rL (l2 P) (fun N2=>(r_seq (b (cnd 18 (E k1 (B24 P N2)) (E k0 (B1 P)))) (r_seq (r_cond rfl r_skip (r_exit (fun _ _ h=>h))) (r_seq (r_block (r_seq (b (E k9 (B23 P N2))) (r_seq (r_seq (b (cnd 28 (E k1 (B3 P N2)) (E k9 (B22 P N2)))) (r_cond rfl (r_exit (fun _ _ h=>h)) r_skip)) (r_seq (b (E k8 (B21 P N2))) (r_seq (r_seq (b (E k3 (L5 P N2))) (r_block (rL (l5 P N2) (fun N5=>(r_seq (r_seq (b (cnd 35 (E k3 (B19 P N2 N5)) (E k2 (B4 P N2)))) (r_cond rfl r_skip (r_exit (fun _ _ h=>h)))) (r_seq (r_block (r_seq (rD T0_ok mixed [(0,false),(1,false),(2,false),(3,false),(4,false),(5,false),(6,false),(7,false)] (by kernel_rfl) (q19 P N2 N5)) (r_block (rL (l7 P N2 N5) (fun N7=>(r_seq (b (cnd 46 (E k4 (B17 P N2 N5 N7)) (E k3 (B6 P N2 N5)))) (r_seq (r_cond rfl r_skip (r_exit (fun _ _ h=>h))) (r_seq (r_block (r_seq (b (E k7 (B16 P N2 N5 N7))) (r_seq (b (E k5 (L9 P N2 N5 N7))) (r_block (rL (l9 P N2 N5 N7) (fun N9=>(r_seq (b (cnd 53 (E k5 (B14 P N2 N5 N7 N9)) (E k4 (B8 P N2 N5 N7)))) (r_seq (r_cond rfl r_skip (r_exit (fun _ _ h=>h))) (r_seq (r_block (r_seq (b (E k6 (B13 P N2 N5 N7 N9))) (r_seq (b (cnd 64 (E k6 (B12 P N2 N5 N7 N9)) (E k5 (B10 P N2 N5 N7 N9)))) (r_cond rfl (r_seq (b (E k6 (B11 P N2 N5 N7 N9))) (b (E k5 (B10 P N2 N5 N7 N9)))) r_skip)))) (b (E k5 N9))))))))))) (b (E k4 N7)))))))))) (b (E k3 N5)))))))) (b (E k1 (B3 P N2)))))))) (b (E k1 N2))))))))) (r_seq (b (ret P)) r_ret))))
theorem ac (P:PT) (x0a:Int) (x0b:Value) (x1:Int) (H:AHeap) (h:B28 P x0a x0b x1 H):A 162 [(agg ⟨[(I x0a),x0b]⟩),(int .u64 x1)] H P:=
  r_fn T0_ok (c:=code) (n:=81) Tryz.func162 body (by kernel_rfl) (main P) (En_mk (x0a,x0b,x1,()) (by kernel_rfl) ⟨by kernel_rfl,by kernel_rfl,trivial⟩ h)

end F162
namespace F166
abbrev E:=En 59
def O (k:Nat):=ob Tryz.f166 (pth k)
abbrev R (i k:Nat):Code:=.region i ⟨O k⟩ false
def ret (P:PT):EP:=retE T0 59 Tryz.f166 P
abbrev k0:Sk:=[]
def B1 (P:PT):Y k0:=fun H=>
  P (bool false) H
abbrev k1:Sk:=[(0,.i .u64),(1,.i .u64),(2,.v),(4,.v),(8,J),(26,.v),(27,J),(28,J)]
def B3 (P:PT) (N2:Y k1):Y k1:=fun x0 x1 x2 x4 x8 x26 x27 x28 H=>
  N2 x0 x1 x2 x4 x8 x26 x27 (i64.wrap (x28+1)) H
def B4 (P:PT) (N2:Y k1):Y k0:=fun H=>
  P (bool true) H
abbrev k2:Sk:=[(0,.i .u64),(1,.i .u64),(2,.v),(4,.v),(8,J),(10,J),(11,J),(26,.v),(27,J),(28,J)]
def o5:=O 31334
def B5 (P:PT) (N2:Y k1):Y k2:=fun x0 x1 x2 x4 x8 x10 x11 x26 x27 x28 H=>
  A 144 [(int .u64 x1),(I x11)] H (fun v1 H2=>asB v1 (fun v3=>pif (!v3) (asP x4 (fun b4 o5=>ld1 H2 b4 o5 (fun v6=>((0:Int)≤x10)∧(((0:Int)≤x8)∧(((0:Int)≤x11)∧(callV Tryz.prog T0 v6 [(int .u64 (u64.wrap (BitVec.ofInt 64 x0|||BitVec.ofInt 64 (u64.wrap (1*2^(min (Int.toNat x10) 64)))).toNat)),(int .u64 (u64.wrap (BitVec.ofInt 64 (u64.wrap (BitVec.ofInt 64 x1|||BitVec.ofInt 64 (u64.wrap (1*2^(min (Int.toNat x8) 64)))).toNat)|||BitVec.ofInt 64 (u64.wrap (1*2^(min (Int.toNat x11) 64)))).toNat))] H2 (fun v7 H8=>asB v7 (fun v9=>pif v9 (B4 P N2 H8) (B3 P N2 x0 x1 x2 x4 x8 x26 x27 x28 H8))))))))) (B3 P N2 x0 x1 x2 x4 x8 x26 x27 x28 H2)))
theorem q5 (P:PT) (N2:Y k1):QD Tryz.prog T0 59 o5 [(0,false),(1,false),(2,false),(3,false),(4,false),(5,false),(6,false),(7,false),(8,false),(9,false),(10,false),(11,false),(12,false),(13,false),(14,false),(15,false),(16,false),(17,false),(18,false)] (cnd 57 (En 59 k0 (B4 P N2)) (En 59 k1 (B3 P N2))) k2 (B5 P N2):=fun _ _ _ _ _ _ _ _ _ _ _ _  => by kernel_rfl
abbrev k3:Sk:=[(0,.i .u64),(1,.i .u64),(2,.v),(4,.v),(8,J),(10,J),(26,.v),(27,J),(28,J)]
def B6 (P:PT) (N2:Y k1):Y k3:=fun x0 x1 x2 x4 x8 x10 x26 x27 x28 H=>
  asP x2 (fun b1 o2=>ld1 H b1 (o2+1) (fun v3=>idxK v3 x10 2 (fun b4 o5=>li H b4 o5 (fun v6=>li H b4 (o5+1) (fun v7=>A 168 [(agg ⟨[(I v6),(I v7)]⟩),(I x8)] H (fun v8 H9=>asI .i64 v8 (fun v10=>B5 P N2 x0 x1 x2 x4 x8 x10 v10 x26 x27 x28 H9)))))))
def B7 (P:PT) (N2:Y k1):Y k1:=fun x0 x1 x2 x4 x8 x26 x27 x28 H=>
  idxK x26 x28 1 (fun b1 o2=>li H b1 o2 (fun v3=>B6 P N2 x0 x1 x2 x4 x8 v3 x26 x27 x28 H))
def B8 (P:PT) (N2:Y k1):Y k1:=fun x0 x1 x2 x4 x8 x26 x27 x28 H=>
  pif (decide ((x28:Int)<x27)) (B7 P N2 x0 x1 x2 x4 x8 x26 x27 x28 H) (B1 P H)
def L2 (P:PT):Y k1:=fun x0 x1 x2 x4 x8 x26 x27 x28 H=>
  ∃ (I:Y k1) (μ:NTy k1 (AHeap→Nat)),I x0 x1 x2 x4 x8 x26 x27 x28 H∧∀ y0 y1 y2 y4 y8 y26 y27 y28 G,I y0 y1 y2 y4 y8 y26 y27 y28 G→B8 P (fun z0 z1 z2 z4 z8 z26 z27 z28 G'=>I z0 z1 z2 z4 z8 z26 z27 z28 G'∧μ z0 z1 z2 z4 z8 z26 z27 z28 G'<μ y0 y1 y2 y4 y8 y26 y27 y28 G) y0 y1 y2 y4 y8 y26 y27 y28 G
theorem l2 P:LQ k1 (L2 P) (B8 P):=fun ⟨_,_,_,_,_,_,_,_,_⟩ _ ⟨I,μ,h0,hI⟩=>⟨apT _ I,apT _ μ,h0,fun ⟨_,_,_,_,_,_,_,_,_⟩ _ h=>hI _ _ _ _ _ _ _ _ _  h⟩
abbrev k4:Sk:=[(0,.i .u64),(1,.i .u64),(2,.v),(4,.v),(8,J)]
def B9 (P:PT):Y k4:=fun x0 x1 x2 x4 x8 H=>
  asP x2 (fun b1 o2=>li H b1 o2 (fun v3=>ld1 H b1 (o2+1) (fun v4=>A 112 [(agg ⟨[(I v3),v4]⟩),(I x8)] H (fun v5 H6=>lenK v5 (fun n8=>L2 P x0 x1 x2 x4 x8 v5 (n8:Int) 0 H6)))))
abbrev k5:Sk:=[(0,.i .u64),(1,.i .u64),(2,.v),(4,.v)]
def B10 (P:PT):Y k5:=fun x0 x1 x2 x4 H=>
  A 167 [(int .u64 (u64.wrap (BitVec.ofInt 64 18446744073709551615 ^^^ BitVec.ofInt 64 x1).toNat))] H (fun v1 H2=>asI .i64 v1 (fun v3=>B9 P x0 x1 x2 x4 v3 H2))
abbrev k6:Sk:=[(0,.i .u64),(3,.v)]
def B11 (P:PT):Y k6:=fun x0 x3 H=>
  asP x3 (fun b1 o2=>ld1 H b1 o2 (fun v3=>callV Tryz.prog T0 v3 [(int .u64 x0)] H (fun v4 H5=>asB v4 (fun v6=>P (bool v6) H5))))
abbrev k7:Sk:=[(0,.i .u64),(1,.i .u64),(2,.v),(3,.v),(4,.v)]
def B12 (P:PT):Y k7:=fun x0 x1 x2 x3 x4 H=>
  asP x2 (fun b1 o2=>li H b1 o2 (fun v3=>((0:Int)≤v3)∧(pif ((x1:Int)==(u64.wrap ((u64.wrap (1*2^(min (Int.toNat v3) 64)))-1))) (B11 P x0 x3 H) (B10 P x0 x1 x2 x4 H))))
def B13 (P:PT):Y k7:=fun x0 x1 x2 x3 x4 H=>
  B12 P x0 x1 x2 x3 x4 H
def code:Code:=(.seq (R 0 2) (.seq (.seq (R 1 12) (.cond (.tmp 17) (.seq (R 2 52) .ret) .skip)) (.seq (R 3 14) (.seq (.seq (R 4 60) (.block 0 (.loop (.seq (R 5 488) (.seq (.cond (.tmp 29) .skip (.exit 0)) (.seq (.block 1 (.seq (R 6 7832) (.seq (R 7 15666) (.seq (.region 8 ⟨o5⟩ true) (.cond (.tmp 57) (.seq (R 9 125340) .ret) .skip))))) (R 10 1959))))))) (.seq (R 11 62) .ret)))))
theorem body:Tryz.f166.body=some code:=by kernel_rfl
theorem main P:Z 59 k7 (B13 P) code (ret P):=
  (r_seq (b (E k7 (B12 P))) (r_seq (r_seq (b (cnd 17 (E k6 (B11 P)) (E k5 (B10 P)))) (r_cond rfl (r_seq (b (ret P)) r_ret) r_skip)) (r_seq (b (E k4 (B9 P))) (r_seq (r_seq (b (E k1 (L2 P))) (r_block (rL (l2 P) (fun N2=>(r_seq (b (cnd 29 (E k1 (B7 P N2)) (E k0 (B1 P)))) (r_seq (r_cond rfl r_skip (r_exit (fun _ _ h=>h))) (r_seq (r_block (r_seq (b (E k3 (B6 P N2))) (r_seq (b (E k2 (B5 P N2))) (r_seq (rD T0_ok mixed [(0,false),(1,false),(2,false),(3,false),(4,false),(5,false),(6,false),(7,false),(8,false),(9,false),(10,false),(11,false),(12,false),(13,false),(14,false),(15,false),(16,false),(17,false),(18,false)] (by kernel_rfl) (q5 P N2)) (r_cond rfl (r_seq (b (ret P)) r_ret) r_skip))))) (b (E k1 N2))))))))) (r_seq (b (ret P)) r_ret)))))
theorem ac (P:PT) (x0 x1:Int) (x2 x3 x4:Value) (H:AHeap) (h:B13 P x0 x1 x2 x3 x4 H):A 166 [(int .u64 x0),(int .u64 x1),x2,x3,x4] H P:=
  r_fn T0_ok (c:=code) (n:=59) Tryz.func166 body (by kernel_rfl) (main P) (En_mk (x0,x1,x2,x3,x4,()) (by kernel_rfl) ⟨by kernel_rfl,by kernel_rfl,by kernel_rfl,by kernel_rfl,by kernel_rfl,trivial⟩ h)

end F166
namespace F167
abbrev E:=En 14
def O (k:Nat):=ob Tryz.f167 (pth k)
abbrev R (i k:Nat):Code:=.region i ⟨O k⟩ false
def ret (P:PT):EP:=retE T0 14 Tryz.f167 P
abbrev k0:Sk:=[(0,.i .u64)]
def o1:=O 14
def B1 (P:PT):Y k0:=fun x0 H=>
  ((0:Int)≤58)∧(bndK (Int.fdiv (u64.wrap ((u64.wrap (BitVec.ofInt 64 x0&&&BitVec.ofInt 64 (u64.wrap (0-x0))).toNat)*285870213051353865)) (2^(min (Int.toNat 58) 64))) 64 (ldI .u8 H 0 (offAt 0 (Int.fdiv (u64.wrap ((u64.wrap (BitVec.ofInt 64 x0&&&BitVec.ofInt 64 (u64.wrap (0-x0))).toNat)*285870213051353865)) (2^(min (Int.toNat 58) 64))) 1) (fun v1=>P (I (i64.wrap v1)) H)))
theorem p1 (u:Nat→Value) (x0:Int) (H:AHeap) (Q:EP):aOps Tryz.prog T0 o1 (o1.take 6) [.int .u64 x0,u 1,u 2,u 3,u 4,u 5,u 6,u 7,u 8,u 9,u 10,u 11,u 12,u 13] H Q=((0:Int)≤58∧Q [.int .u64 x0,u 1,u 2,u 3,u 4,.int .u64 x0,.int .u64 x0,.int .u64 (u64.wrap (0-x0)),.int .u64 (u64.wrap (BitVec.ofInt 64 x0&&&BitVec.ofInt 64 (u64.wrap (0-x0))).toNat),.int .u64 (u64.wrap ((u64.wrap (BitVec.ofInt 64 x0&&&BitVec.ofInt 64 (u64.wrap (0-x0))).toNat)*285870213051353865)),.int .u64 (Int.fdiv (u64.wrap ((u64.wrap (BitVec.ofInt 64 x0&&&BitVec.ofInt 64 (u64.wrap (0-x0))).toNat)*285870213051353865)) (2^(min (Int.toNat 58) 64))),u 11,u 12,u 13] H):=by kernel_rfl
theorem p2 (P:PT) (u:Nat→Value) (a b c d e:Value) (n:Int) (H:AHeap):aOps Tryz.prog T0 o1 (o1.drop 6) [a,u 1,u 2,u 3,u 4,a,b,c,d,e,.int .u64 n,u 11,u 12,u 13] H (ret P)=bndK n 64 (ldI .u8 H 0 (offAt 0 n 1) (fun v1=>P (I (i64.wrap v1)) H)):=by kernel_rfl
theorem q1 P:QB Tryz.prog T0 14 o1 (ret P) k0 (B1 P):=fun u x0 H=>(aOps_cut Tryz.prog T0 o1 o1 6 _ H _).trans ((p1 u x0 H _).trans (congrArg _ (p2 P u _ _ _ _ _ _ H)))
abbrev k1:Sk:=[]
def B2 (P:PT):Y k1:=fun H=>
  P (I 64) H
def B3 (P:PT):Y k0:=fun x0 H=>
  pif ((x0:Int)==0) (B2 P H) (B1 P x0 H)
def B4 (P:PT):Y k0:=fun x0 H=>
  B3 P x0 H
def code:Code:=(.seq (R 0 2) (.seq (.seq (R 1 12) (.cond (.tmp 4) (.seq (R 2 52) .ret) .skip)) (.seq (R 3 14) .ret)))
theorem body:Tryz.f167.body=some code:=by kernel_rfl
theorem main P:Z 14 k0 (B4 P) code (ret P):=
  (r_seq (b (E k0 (B3 P))) (r_seq (r_seq (b (cnd 4 (E k1 (B2 P)) (E k0 (B1 P)))) (r_cond rfl (r_seq (b (ret P)) r_ret) r_skip)) (r_seq (rB T0_ok (q1 P)) r_ret)))
theorem ac (P:PT) (x0:Int) (H:AHeap) (h:B4 P x0 H):A 167 [(int .u64 x0)] H P:=
  r_fn T0_ok (c:=code) (n:=14) Tryz.func167 body (by kernel_rfl) (main P) (En_mk (x0,()) (by kernel_rfl) ⟨by kernel_rfl,trivial⟩ h)

end F167
namespace F168
abbrev E:=En 12
def O (k:Nat):=ob Tryz.f168 (pth k)
abbrev R (i k:Nat):Code:=.region i ⟨O k⟩ false
def ret (P:PT):EP:=retE T0 12 Tryz.f168 P
abbrev k0:Sk:=[(1,J),(2,.x)]
def B1 (P:PT):Y k0:=fun x1 x2 H=>
  li H x2 0 (fun v1=>li H x2 1 (fun v2=>P (I (i64.wrap ((i64.wrap (v1+v2))-x1))) H))
abbrev k1:Sk:=[(0,.g [.i,.i]),(1,J)]
def B2 (P:PT):Y k1:=fun x0a x0b x1 H=>
  newK H [(I x0a),(I x0b)] 28 (fun b1 H2=>B1 P x1 b1 H2)
def code:Code:=(.seq (R 0 2) (.seq (R 1 6) .ret))
theorem body:Tryz.f168.body=some code:=by kernel_rfl
theorem main P:Z 12 k1 (B2 P) code (ret P):=
  (r_seq (b (E k0 (B1 P))) (r_seq (b (ret P)) r_ret))
theorem ac (P:PT) (x0a x0b x1:Int) (H:AHeap) (h:B2 P x0a x0b x1 H):A 168 [(agg ⟨[(I x0a),(I x0b)]⟩),(I x1)] H P:=
  r_fn T0_ok (c:=code) (n:=12) Tryz.func168 body (by kernel_rfl) (main P) (En_mk (x0a,x0b,x1,()) (by kernel_rfl) ⟨by kernel_rfl,by kernel_rfl,trivial⟩ h)

end F168
namespace F169
abbrev E:=En 15
def O (k:Nat):=ob Tryz.f169 (pth k)
abbrev R (i k:Nat):Code:=.region i ⟨O k⟩ false
def ret (P:PT):EP:=retE T0 15 Tryz.f169 P
abbrev k0:Sk:=[(1,J),(2,.x)]
def B1 (P:PT):Y k0:=fun x1 x2 H=>
  li H x2 0 (fun v1=>pif ((v1:Int)==x1) (P (bool true) H) (li H x2 1 (fun v2=>P (bool ((v2:Int)==x1)) H)))
abbrev k1:Sk:=[(0,.g [.i,.i]),(1,J)]
def B2 (P:PT):Y k1:=fun x0a x0b x1 H=>
  newK H [(I x0a),(I x0b)] 28 (fun b1 H2=>B1 P x1 b1 H2)
def code:Code:=(.seq (R 0 2) (.seq (R 1 6) .ret))
theorem body:Tryz.f169.body=some code:=by kernel_rfl
theorem main P:Z 15 k1 (B2 P) code (ret P):=
  (r_seq (b (E k0 (B1 P))) (r_seq (b (ret P)) r_ret))
theorem ac (P:PT) (x0a x0b x1:Int) (H:AHeap) (h:B2 P x0a x0b x1 H):A 169 [(agg ⟨[(I x0a),(I x0b)]⟩),(I x1)] H P:=
  r_fn T0_ok (c:=code) (n:=15) Tryz.func169 body (by kernel_rfl) (main P) (En_mk (x0a,x0b,x1,()) (by kernel_rfl) ⟨by kernel_rfl,by kernel_rfl,trivial⟩ h)

end F169
namespace F172
abbrev E:=En 19
def O (k:Nat):=ob Tryz.f172 (pth k)
abbrev R (i k:Nat):Code:=.region i ⟨O k⟩ false
def ret (P:PT):EP:=retE T0 19 Tryz.f172 P
abbrev k0:Sk:=[]
def B1 (P:PT):Y k0:=fun H=>
  P (I (-1)) H
abbrev k1:Sk:=[(0,.v),(1,.v),(7,J),(8,J)]
def B3 (P:PT) (N2:Y k1):Y k1:=fun x0 x1 x7 x8 H=>
  N2 x0 x1 x7 (i64.wrap (x8+1)) H
abbrev k2:Sk:=[(5,J)]
def B4 (P:PT) (N2:Y k1):Y k2:=fun x5 H=>
  P (I x5) H
abbrev k3:Sk:=[(0,.v),(1,.v),(5,J),(7,J),(8,J)]
def B5 (P:PT) (N2:Y k1):Y k3:=fun x0 x1 x5 x7 x8 H=>
  idxK x0 x5 2 (fun b1 o2=>li H b1 o2 (fun v3=>li H b1 (o2+1) (fun v4=>callV Tryz.prog T0 x1 [(agg ⟨[(I v3),(I v4)]⟩)] H (fun v5 H6=>asB v5 (fun v7=>pif v7 (B4 P N2 x5 H6) (B3 P N2 x0 x1 x7 x8 H6))))))
def B6 (P:PT) (N2:Y k1):Y k1:=fun x0 x1 x7 x8 H=>
  B5 P N2 x0 x1 x8 x7 x8 H
def B7 (P:PT) (N2:Y k1):Y k1:=fun x0 x1 x7 x8 H=>
  pif (decide ((x8:Int)<x7)) (B6 P N2 x0 x1 x7 x8 H) (B1 P H)
def L2 (P:PT):Y k1:=fun x0 x1 x7 x8 H=>
  ∃ (I:Y k1) (μ:NTy k1 (AHeap→Nat)),I x0 x1 x7 x8 H∧∀ y0 y1 y7 y8 G,I y0 y1 y7 y8 G→B7 P (fun z0 z1 z7 z8 G'=>I z0 z1 z7 z8 G'∧μ z0 z1 z7 z8 G'<μ y0 y1 y7 y8 G) y0 y1 y7 y8 G
theorem l2 P:LQ k1 (L2 P) (B7 P):=fun ⟨_,_,_,_,_⟩ _ ⟨I,μ,h0,hI⟩=>⟨apT _ I,apT _ μ,h0,fun ⟨_,_,_,_,_⟩ _ h=>hI _ _ _ _ _  h⟩
abbrev k4:Sk:=[(0,.v),(1,.v)]
def B8 (P:PT):Y k4:=fun x0 x1 H=>
  lenK x0 (fun n1=>L2 P x0 x1 (n1:Int) 0 H)
def B9 (P:PT):Y k4:=fun x0 x1 H=>
  B8 P x0 x1 H
def code:Code:=(.seq (R 0 2) (.seq (.seq (R 1 12) (.block 0 (.loop (.seq (R 2 104) (.seq (.cond (.tmp 9) .skip (.exit 0)) (.seq (.block 1 (.seq (R 3 1688) (.seq (R 4 3378) (.cond (.tmp 16) (.seq (R 5 13516) .ret) .skip)))) (R 6 423))))))) (.seq (R 7 14) .ret)))
theorem body:Tryz.f172.body=some code:=by kernel_rfl
theorem main P:Z 19 k4 (B9 P) code (ret P):=
  (r_seq (b (E k4 (B8 P))) (r_seq (r_seq (b (E k1 (L2 P))) (r_block (rL (l2 P) (fun N2=>(r_seq (b (cnd 9 (E k1 (B6 P N2)) (E k0 (B1 P)))) (r_seq (r_cond rfl r_skip (r_exit (fun _ _ h=>h))) (r_seq (r_block (r_seq (b (E k3 (B5 P N2))) (r_seq (b (cnd 16 (E k2 (B4 P N2)) (E k1 (B3 P N2)))) (r_cond rfl (r_seq (b (ret P)) r_ret) r_skip)))) (b (E k1 N2))))))))) (r_seq (b (ret P)) r_ret)))
theorem ac (P:PT) (x0 x1:Value) (H:AHeap) (h:B9 P x0 x1 H):A 172 [x0,x1] H P:=
  r_fn T0_ok (c:=code) (n:=19) Tryz.func172 body (by kernel_rfl) (main P) (En_mk (x0,x1,()) (by kernel_rfl) ⟨by kernel_rfl,by kernel_rfl,trivial⟩ h)

end F172
namespace F173
abbrev E:=En 20
def O (k:Nat):=ob Tryz.f173 (pth k)
abbrev R (i k:Nat):Code:=.region i ⟨O k⟩ false
def ret (P:PT):EP:=retE T0 20 Tryz.f173 P
abbrev k0:Sk:=[]
def B1 (P:PT):Y k0:=fun H=>
  P (I 0) H
def B2 (P:PT):Y k0:=fun H=>
  P (I 1) H
abbrev k1:Sk:=[(0,J),(1,J)]
def B3 (P:PT):Y k1:=fun x0 x1 H=>
  pif (decide ((x0:Int)>x1)) (B2 P H) (B1 P H)
def B4 (P:PT):Y k0:=fun H=>
  P (I (-1)) H
def B5 (P:PT):Y k1:=fun x0 x1 H=>
  pif (decide ((x0:Int)<x1)) (B4 P H) (B3 P x0 x1 H)
def B6 (P:PT):Y k0:=fun H=>
  P (I 1) H
abbrev k2:Sk:=[(0,J),(1,J),(6,.b)]
def B7 (P:PT):Y k2:=fun x0 x1 x6 H=>
  pif x6 (B6 P H) (B5 P x0 x1 H)
def B8 (P:PT):Y k0:=fun H=>
  P (I (-1)) H
def B9 (P:PT):Y k0:=fun H=>
  P (I 0) H
abbrev k3:Sk:=[(6,.b)]
def B10 (P:PT):Y k3:=fun x6 H=>
  pif x6 (B9 P H) (B8 P H)
abbrev k4:Sk:=[(0,J),(1,J),(5,.b),(6,.b)]
def B11 (P:PT):Y k4:=fun x0 x1 x5 x6 H=>
  pif x5 (B10 P x6 H) (B7 P x0 x1 x6 H)
abbrev k5:Sk:=[(0,J),(1,J),(5,.b)]
def B12 (P:PT):Y k5:=fun x0 x1 x5 H=>
  A 204 [(I x1)] H (fun v1 H2=>asB v1 (fun v3=>B11 P x0 x1 x5 v3 H2))
def B13 (P:PT):Y k1:=fun x0 x1 H=>
  A 204 [(I x0)] H (fun v1 H2=>asB v1 (fun v3=>B12 P x0 x1 v3 H2))
def B14 (P:PT):Y k1:=fun x0 x1 H=>
  B13 P x0 x1 H
def code:Code:=(.seq (R 0 2) (.seq (R 1 6) (.seq (R 2 14) (.seq (.seq (R 3 60) (.cond (.tmp 11) (.seq (.seq (R 4 488) (.cond (.tmp 12) (.seq (R 5 1956) .ret) .skip)) (.seq (R 6 490) .ret)) .skip)) (.seq (.seq (R 7 124) (.cond (.tmp 13) (.seq (R 8 500) .ret) .skip)) (.seq (.seq (R 9 252) (.cond (.tmp 16) (.seq (R 10 1012) .ret) .skip)) (.seq (.seq (R 11 508) (.cond (.tmp 19) (.seq (R 12 2036) .ret) .skip)) (.seq (R 13 510) .ret))))))))
theorem body:Tryz.f173.body=some code:=by kernel_rfl
theorem main P:Z 20 k1 (B14 P) code (ret P):=
  (r_seq (b (E k1 (B13 P))) (r_seq (b (E k5 (B12 P))) (r_seq (b (E k4 (B11 P))) (r_seq (r_seq (b (cnd 11 (E k3 (B10 P)) (E k2 (B7 P)))) (r_cond rfl (r_seq (r_seq (b (cnd 12 (E k0 (B9 P)) (E k0 (B8 P)))) (r_cond rfl (r_seq (b (ret P)) r_ret) r_skip)) (r_seq (b (ret P)) r_ret)) r_skip)) (r_seq (r_seq (b (cnd 13 (E k0 (B6 P)) (E k1 (B5 P)))) (r_cond rfl (r_seq (b (ret P)) r_ret) r_skip)) (r_seq (r_seq (b (cnd 16 (E k0 (B4 P)) (E k1 (B3 P)))) (r_cond rfl (r_seq (b (ret P)) r_ret) r_skip)) (r_seq (r_seq (b (cnd 19 (E k0 (B2 P)) (E k0 (B1 P)))) (r_cond rfl (r_seq (b (ret P)) r_ret) r_skip)) (r_seq (b (ret P)) r_ret))))))))
theorem ac (P:PT) (x0 x1:Int) (H:AHeap) (h:B14 P x0 x1 H):A 173 [(I x0),(I x1)] H P:=
  r_fn T0_ok (c:=code) (n:=20) Tryz.func173 body (by kernel_rfl) (main P) (En_mk (x0,x1,()) (by kernel_rfl) ⟨by kernel_rfl,by kernel_rfl,trivial⟩ h)

end F173
namespace F174
abbrev E:=En 9
def O (k:Nat):=ob Tryz.f174 (pth k)
abbrev R (i k:Nat):Code:=.region i ⟨O k⟩ false
def ret (P:PT):EP:=retE T0 9 Tryz.f174 P
abbrev k0:Sk:=[(0,.v),(1,.v)]
def B1 (P:PT):Y k0:=fun x0 x1 H=>
  A 205 [x0,x1] H (fun v1 H2=>asI .i64 v1 (fun v3=>P (bool (decide ((v3:Int)≥0))) H2))
def B2 (P:PT):Y k0:=fun x0 x1 H=>
  B1 P x0 x1 H
def code:Code:=(.seq (R 0 2) (.seq (R 1 6) .ret))
theorem body:Tryz.f174.body=some code:=by kernel_rfl
theorem main P:Z 9 k0 (B2 P) code (ret P):=
  (r_seq (b (E k0 (B1 P))) (r_seq (b (ret P)) r_ret))
theorem ac (P:PT) (x0 x1:Value) (H:AHeap) (h:B2 P x0 x1 H):A 174 [x0,x1] H P:=
  r_fn T0_ok (c:=code) (n:=9) Tryz.func174 body (by kernel_rfl) (main P) (En_mk (x0,x1,()) (by kernel_rfl) ⟨by kernel_rfl,by kernel_rfl,trivial⟩ h)

end F174
namespace F175
abbrev E:=En 8
def O (k:Nat):=ob Tryz.f175 (pth k)
abbrev R (i k:Nat):Code:=.region i ⟨O k⟩ false
def ret (P:PT):EP:=retE T0 8 Tryz.f175 P
abbrev k0:Sk:=[(0,J),(1,.v)]
def B1 (P:PT):Y k0:=fun x0 x1 H=>
  asP x1 (fun b1 o2=>ld1 H b1 o2 (fun v3=>callV Tryz.prog T0 v3 [(I x0)] H (fun v4 H5=>asB v4 (fun v6=>P (bool (!v6)) H5))))
def o2:=O 2
def B2 (P:PT):Y k0:=fun x0 x1 H=>
  B1 P x0 x1 H
def code:Code:=(.seq (R 0 2) (.seq (R 1 6) .ret))
theorem body:Tryz.f175.body=some code:=by kernel_rfl
theorem main P:Z 8 k0 (B2 P) code (ret P):=
  (r_seq (b (E k0 (B1 P))) (r_seq (b (ret P)) r_ret))
theorem ac (P:PT) (x0:Int) (x1:Value) (H:AHeap) (h:B2 P x0 x1 H):A 175 [(I x0),x1] H P:=
  r_fn T0_ok (c:=code) (n:=8) Tryz.func175 body (by kernel_rfl) (main P) (En_mk (x0,x1,()) (by kernel_rfl) ⟨by kernel_rfl,by kernel_rfl,trivial⟩ h)

end F175
namespace F176
abbrev E:=En 46
def O (k:Nat):=ob Tryz.f176 (pth k)
abbrev R (i k:Nat):Code:=.region i ⟨O k⟩ false
def ret (P:PT):EP:=retE T0 46 Tryz.f176 P
abbrev k0:Sk:=[(5,.v)]
def B1 (P:PT):Y k0:=fun x5 H=>
  P x5 H
abbrev k1:Sk:=[(1,.i .u64),(2,.x),(5,.v),(6,.i .u64),(12,J),(13,J)]
def B3 (P:PT) (N2:Y k1):Y k1:=fun x1 x2 x5 x6 x12 x13 H=>
  N2 x1 x2 x5 x6 x12 (i64.wrap (x13+1)) H
abbrev k2:Sk:=[(1,.i .u64),(2,.x),(5,.v),(6,.i .u64),(8,.v),(12,J),(13,J)]
def B4 (P:PT) (N2:Y k1):Y k2:=fun x1 x2 x5 x6 x8 x12 x13 H=>
  pif (Value.oneCell' x8) (newK H [x8] 42 (fun b1 H2=>apK T0 42 H2 x5 (slice (some ⟨b1,0,none⟩) 1 (1+1)) (fun v3 H4=>B3 P N2 x1 x2 v3 x6 x12 x13 H4))) False
abbrev k3:Sk:=[(1,.i .u64),(2,.x),(5,.v),(6,.i .u64),(8,.v),(12,J),(13,J),(22,.v),(23,J),(24,J)]
def B6 (P:PT) (N2:Y k1) (N5:Y k3):Y k3:=fun x1 x2 x5 x6 x8 x12 x13 x22 x23 x24 H=>
  N5 x1 x2 x5 x6 x8 x12 x13 x22 x23 (i64.wrap (x24+1)) H
abbrev k4:Sk:=[(1,.i .u64),(2,.x),(5,.v),(6,.i .u64),(8,.v),(9,J),(12,J),(13,J),(22,.v),(23,J),(24,J)]
def B7 (P:PT) (N2:Y k1) (N5:Y k3):Y k4:=fun x1 x2 x5 x6 x8 x9 x12 x13 x22 x23 x24 H=>
  ((0:Int)≤x9)∧(B6 P N2 N5 x1 x2 x5 (u64.wrap (BitVec.ofInt 64 x6|||BitVec.ofInt 64 (u64.wrap (1*2^(min (Int.toNat x9) 64)))).toNat) x8 x12 x13 x22 x23 x24 H)
def B8 (P:PT) (N2:Y k1) (N5:Y k3):Y k4:=fun x1 x2 x5 x6 x8 x9 x12 x13 x22 x23 x24 H=>
  newK H [(I x9)] 2 (fun b1 H2=>apK T0 2 H2 x8 (slice (some ⟨b1,0,none⟩) 1 (1+1)) (fun v3 H4=>B7 P N2 N5 x1 x2 x5 x6 v3 x9 x12 x13 x22 x23 x24 H4))
abbrev k5:Sk:=[(1,.i .u64),(2,.x),(5,.v),(6,.i .u64),(8,.v),(9,J),(10,J),(12,J),(13,J),(22,.v),(23,J),(24,J)]
def B9 (P:PT) (N2:Y k1) (N5:Y k3):Y k5:=fun x1 x2 x5 x6 x8 x9 x10 x12 x13 x22 x23 x24 H=>
  pif (decide ((x10:Int)≥0)) (B8 P N2 N5 x1 x2 x5 x6 x8 x9 x12 x13 x22 x23 x24 H) (B6 P N2 N5 x1 x2 x5 x6 x8 x12 x13 x22 x23 x24 H)
def B10 (P:PT) (N2:Y k1) (N5:Y k3):Y k3:=fun x1 x2 x5 x6 x8 x12 x13 x22 x23 x24 H=>
  idxK x22 x24 1 (fun b1 o2=>li H b1 o2 (fun v3=>B9 P N2 N5 x1 x2 x5 x6 x8 x24 v3 x12 x13 x22 x23 x24 H))
def B11 (P:PT) (N2:Y k1) (N5:Y k3):Y k3:=fun x1 x2 x5 x6 x8 x12 x13 x22 x23 x24 H=>
  pif (decide ((x24:Int)<x23)) (B10 P N2 N5 x1 x2 x5 x6 x8 x12 x13 x22 x23 x24 H) (B4 P N2 x1 x2 x5 x6 x8 x12 x13 H)
def L5 (P:PT) (N2:Y k1):Y k3:=fun x1 x2 x5 x6 x8 x12 x13 x22 x23 x24 H=>
  ∃ (I:Y k3) (μ:NTy k3 (AHeap→Nat)),I x1 x2 x5 x6 x8 x12 x13 x22 x23 x24 H∧∀ y1 y2 y5 y6 y8 y12 y13 y22 y23 y24 G,I y1 y2 y5 y6 y8 y12 y13 y22 y23 y24 G→B11 P N2 (fun z1 z2 z5 z6 z8 z12 z13 z22 z23 z24 G'=>I z1 z2 z5 z6 z8 z12 z13 z22 z23 z24 G'∧μ z1 z2 z5 z6 z8 z12 z13 z22 z23 z24 G'<μ y1 y2 y5 y6 y8 y12 y13 y22 y23 y24 G) y1 y2 y5 y6 y8 y12 y13 y22 y23 y24 G
theorem l5 P N2:LQ k3 (L5 P N2) (B11 P N2):=fun ⟨_,_,_,_,_,_,_,_,_,_,_⟩ _ ⟨I,μ,h0,hI⟩=>⟨apT _ I,apT _ μ,h0,fun ⟨_,_,_,_,_,_,_,_,_,_,_⟩ _ h=>hI _ _ _ _ _ _ _ _ _ _ _  h⟩
abbrev k6:Sk:=[(1,.i .u64),(2,.x),(5,.v),(6,.i .u64),(7,J),(8,.v),(12,J),(13,J)]
def B12 (P:PT) (N2:Y k1):Y k6:=fun x1 x2 x5 x6 x7 x8 x12 x13 H=>
  li H x2 0 (fun v1=>ld1 H x2 1 (fun v2=>A 206 [(agg ⟨[(I v1),v2]⟩),(I x7),(int .u64 x1)] H (fun v3 H4=>lenK v3 (fun n6=>L5 P N2 x1 x2 x5 x6 x8 x12 x13 v3 (n6:Int) 0 H4))))
abbrev k7:Sk:=[(1,.i .u64),(2,.x),(5,.v),(6,.i .u64),(7,J),(12,J),(13,J)]
def B13 (P:PT) (N2:Y k1):Y k7:=fun x1 x2 x5 x6 x7 x12 x13 H=>
  B12 P N2 x1 x2 x5 x6 x7 (slice none 0 0) x12 x13 H
def B14 (P:PT) (N2:Y k1):Y k7:=fun x1 x2 x5 x6 x7 x12 x13 H=>
  A 144 [(int .u64 x6),(I x7)] H (fun v1 H2=>asB v1 (fun v3=>pif v3 (B3 P N2 x1 x2 x5 x6 x12 x13 H2) (B13 P N2 x1 x2 x5 x6 x7 x12 x13 H2)))
def B15 (P:PT) (N2:Y k1):Y k1:=fun x1 x2 x5 x6 x12 x13 H=>
  B14 P N2 x1 x2 x5 x6 x13 x12 x13 H
def B16 (P:PT) (N2:Y k1):Y k1:=fun x1 x2 x5 x6 x12 x13 H=>
  pif (decide ((x13:Int)<x12)) (B15 P N2 x1 x2 x5 x6 x12 x13 H) (B1 P x5 H)
def L2 (P:PT):Y k1:=fun x1 x2 x5 x6 x12 x13 H=>
  ∃ (I:Y k1) (μ:NTy k1 (AHeap→Nat)),I x1 x2 x5 x6 x12 x13 H∧∀ y1 y2 y5 y6 y12 y13 G,I y1 y2 y5 y6 y12 y13 G→B16 P (fun z1 z2 z5 z6 z12 z13 G'=>I z1 z2 z5 z6 z12 z13 G'∧μ z1 z2 z5 z6 z12 z13 G'<μ y1 y2 y5 y6 y12 y13 G) y1 y2 y5 y6 y12 y13 G
theorem l2 P:LQ k1 (L2 P) (B16 P):=fun ⟨_,_,_,_,_,_,_⟩ _ ⟨I,μ,h0,hI⟩=>⟨apT _ I,apT _ μ,h0,fun ⟨_,_,_,_,_,_,_⟩ _ h=>hI _ _ _ _ _ _ _  h⟩
abbrev k8:Sk:=[(1,.i .u64),(2,.x),(5,.v),(6,.i .u64)]
def B17 (P:PT):Y k8:=fun x1 x2 x5 x6 H=>
  li H x2 0 (fun v1=>L2 P x1 x2 x5 x6 v1 0 H)
abbrev k9:Sk:=[(1,.i .u64),(2,.x),(5,.v)]
def B18 (P:PT):Y k9:=fun x1 x2 x5 H=>
  B17 P x1 x2 x5 0 H
abbrev k10:Sk:=[(1,.i .u64),(2,.x)]
def B19 (P:PT):Y k10:=fun x1 x2 H=>
  B18 P x1 x2 (slice none 0 0) H
abbrev k11:Sk:=[(0,.g [.i,.v]),(1,.i .u64)]
def B20 (P:PT):Y k11:=fun x0a x0b x1 H=>
  newK H [(I x0a),x0b] 31 (fun b1 H2=>B19 P x1 b1 H2)
def code:Code:=(.seq (R 0 2) (.seq (R 1 6) (.seq (R 2 14) (.seq (.seq (R 3 60) (.block 0 (.loop (.seq (R 4 488) (.seq (.cond (.tmp 14) .skip (.exit 0)) (.seq (.block 1 (.seq (R 5 7832) (.seq (.seq (R 6 31332) (.cond (.tmp 18) (.exit 1) .skip)) (.seq (R 7 31334) (.seq (.seq (R 8 125340) (.block 2 (.loop (.seq (R 9 1002728) (.seq (.cond (.tmp 25) .skip (.exit 2)) (.seq (.block 3 (.seq (R 10 16043672) (.seq (R 11 32087346) (.cond (.tmp 30) (.seq (R 12 128349388) (R 13 128349389)) .skip)))) (R 14 4010919))))))) (R 15 62671)))))) (R 16 1959))))))) (.seq (R 17 62) .ret)))))
theorem body:Tryz.f176.body=some code:=by kernel_rfl
theorem main P:Z 46 k11 (B20 P) code (ret P):=
  (r_seq (b (E k10 (B19 P))) (r_seq (b (E k9 (B18 P))) (r_seq (b (E k8 (B17 P))) (r_seq (r_seq (b (E k1 (L2 P))) (r_block (rL (l2 P) (fun N2=>(r_seq (b (cnd 14 (E k1 (B15 P N2)) (E k0 (B1 P)))) (r_seq (r_cond rfl r_skip (r_exit (fun _ _ h=>h))) (r_seq (r_block (r_seq (b (E k7 (B14 P N2))) (r_seq (r_seq (b (cnd 18 (E k1 (B3 P N2)) (E k7 (B13 P N2)))) (r_cond rfl (r_exit (fun _ _ h=>h)) r_skip)) (r_seq (b (E k6 (B12 P N2))) (r_seq (r_seq (b (E k3 (L5 P N2))) (r_block (rL (l5 P N2) (fun N5=>(r_seq (b (cnd 25 (E k3 (B10 P N2 N5)) (E k2 (B4 P N2)))) (r_seq (r_cond rfl r_skip (r_exit (fun _ _ h=>h))) (r_seq (r_block (r_seq (b (E k5 (B9 P N2 N5))) (r_seq (b (cnd 30 (E k4 (B8 P N2 N5)) (E k3 (B6 P N2 N5)))) (r_cond rfl (r_seq (b (E k4 (B7 P N2 N5))) (b (E k3 (B6 P N2 N5)))) r_skip)))) (b (E k3 N5))))))))) (b (E k1 (B3 P N2)))))))) (b (E k1 N2))))))))) (r_seq (b (ret P)) r_ret)))))
theorem ac (P:PT) (x0a:Int) (x0b:Value) (x1:Int) (H:AHeap) (h:B20 P x0a x0b x1 H):A 176 [(agg ⟨[(I x0a),x0b]⟩),(int .u64 x1)] H P:=
  r_fn T0_ok (c:=code) (n:=46) Tryz.func176 body (by kernel_rfl) (main P) (En_mk (x0a,x0b,x1,()) (by kernel_rfl) ⟨by kernel_rfl,by kernel_rfl,trivial⟩ h)

end F176
namespace F177
abbrev E:=En 48
def O (k:Nat):=ob Tryz.f177 (pth k)
abbrev R (i k:Nat):Code:=.region i ⟨O k⟩ false
def ret (P:PT):EP:=retE T0 48 Tryz.f177 P
abbrev k0:Sk:=[(7,.v)]
def B1 (P:PT):Y k0:=fun x7 H=>
  P x7 H
abbrev k1:Sk:=[(7,.v),(8,J)]
def o3:=O 4066
def B3 (P:PT) (N2:Y k1):Y k1:=fun x7 x8 H=>
  sliceK H 2 x7 (some (I x8)) none 1 (fun v1=>sliceK H 2 x7 none (some (I x8)) 1 (fun v2=>cpK T0 2 H v1 v2 (fun n3 H4=>N2 x7 (i64.wrap (x8+(n3:Int))) H4)))
theorem q3 (P:PT) (N2:Y k1):QD Tryz.prog T0 48 o3 [(0,false),(1,false),(2,false),(3,false),(4,false),(5,false),(6,false),(7,false),(8,false),(9,false)] (En 48 k1 N2) k1 (B3 P N2):=fun _ _ _ _  => by kernel_rfl
def B4 (P:PT) (N2:Y k1):Y k1:=fun x7 x8 H=>
  lenK x7 (fun n1=>pif (decide ((x8:Int)<(n1:Int))) (B3 P N2 x7 x8 H) (B1 P x7 H))
def L2 (P:PT):Y k1:=fun x7 x8 H=>
  ∃ (I:Y k1) (μ:NTy k1 (AHeap→Nat)),I x7 x8 H∧∀ y7 y8 G,I y7 y8 G→B4 P (fun z7 z8 G'=>I z7 z8 G'∧μ z7 z8 G'<μ y7 y8 G) y7 y8 G
theorem l2 P:LQ k1 (L2 P) (B4 P):=fun ⟨_,_,_⟩ _ ⟨I,μ,h0,hI⟩=>⟨apT _ I,apT _ μ,h0,fun ⟨_,_,_⟩ _ h=>hI _ _ _  h⟩
abbrev k2:Sk:=[(0,.v),(7,.v)]
def B5 (P:PT):Y k2:=fun x0 x7 H=>
  cpK T0 2 H x7 x0 (fun n1 H2=>L2 P x7 (n1:Int) H2)
abbrev k3:Sk:=[(0,.v),(6,.i .u64)]
def B6 (P:PT):Y k3:=fun x0 x6 H=>
  mkR H 8 2 [(I 0)] (i64.wrap x6) (i64.wrap x6) (fun v2 H1=>B5 P x0 v2 H1)
abbrev k4:Sk:=[(0,.v),(5,.i .u64),(6,.i .u64)]
def B7 (P:PT):Y k4:=fun x0 x5 x6 H=>
  pif (decide ((x5:Int)>0)) (False) (pif (decide ((x6:Int)>9223372036854775807)) (False) (B6 P x0 x6 H))
abbrev k5:Sk:=[(0,.v),(1,J)]
def B8 (P:PT):Y k5:=fun x0 x1 H=>
  lenK x0 (fun n1=>A 207 [(int .u64 (u64.wrap (n1:Int))),(int .u64 (u64.wrap x1))] H (fun v2 H3=>tup2 v2 (fun v4 v5=>asI .u64 v4 (fun v6=>asI .u64 v5 (fun v7=>B7 P x0 v6 v7 H3)))))
def B9 (P:PT):Y k5:=fun x0 x1 H=>
  pif (decide ((x1:Int)<0)) (False) (B8 P x0 x1 H)
def B10 (P:PT):Y k5:=fun x0 x1 H=>
  B9 P x0 x1 H
def code:Code:=(.seq (R 0 2) (.seq (.seq (R 1 12) (.cond (.tmp 10) (codeAt (bodyOf Tryz.f177) [.r,.l,.r,.l]) .skip)) (.seq (R 3 14) (.seq (.seq (R 4 60) (.cond (.tmp 26) (codeAt (bodyOf Tryz.f177) [.r,.r,.r,.l,.r,.l]) .skip)) (.seq (R 6 62) (.seq (R 7 126) (.seq (.block 0 (.loop (.seq (.seq (R 8 4064) (.cond (.tmp 37) .skip (.exit 0))) (.block 1 (.region 9 ⟨o3⟩ true))))) (.seq (R 10 510) .ret))))))))
theorem body:Tryz.f177.body=some code:=by kernel_rfl
theorem main P:Z 48 k5 (B10 P) code (ret P):=
  (r_seq (b (E k5 (B9 P))) (r_seq (r_seq (b (cnd 10 (fun _ _=>False) (E k5 (B8 P)))) (r_cond rfl r_none r_skip)) (r_seq (b (E k4 (B7 P))) (r_seq (r_seq (b (cnd 26 (fun _ _=>False) (E k3 (B6 P)))) (r_cond rfl r_none r_skip)) (r_seq (b (E k2 (B5 P))) (r_seq (b (E k1 (L2 P))) (r_seq (r_block (rL (l2 P) (fun N2=>(r_seq (r_seq (b (cnd 37 (E k1 (B3 P N2)) (E k0 (B1 P)))) (r_cond rfl r_skip (r_exit (fun _ _ h=>h)))) (r_block (rD T0_ok mixed [(0,false),(1,false),(2,false),(3,false),(4,false),(5,false),(6,false),(7,false),(8,false),(9,false)] (by kernel_rfl) (q3 P N2))))))) (r_seq (b (ret P)) r_ret))))))))
theorem ac (P:PT) (x0:Value) (x1:Int) (H:AHeap) (h:B10 P x0 x1 H):A 177 [x0,(I x1)] H P:=
  r_fn T0_ok (c:=code) (n:=48) Tryz.func177 body (by kernel_rfl) (main P) (En_mk (x0,x1,()) (by kernel_rfl) ⟨by kernel_rfl,by kernel_rfl,trivial⟩ h)

end F177
end
end Go.Proofs
