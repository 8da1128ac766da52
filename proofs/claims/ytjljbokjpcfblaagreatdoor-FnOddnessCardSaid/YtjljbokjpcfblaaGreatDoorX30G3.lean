import Derived.Test.YtjljbokjpcfblaaGreatDoorX30S
set_option linter.unusedVariables false
set_option maxRecDepth 100000
namespace Go.Proofs
open Go.Abs
noncomputable section
namespace F89
abbrev E:=En 33
abbrev Q:=QB Tryz.prog T0 33
def O (k:Nat):=ob Tryz.f89 (pth k)
def ret (P:PT):EP:=retE T0 33 Tryz.f89 P
abbrev k0:Sk:=[(5,.v)]
def o1:=O 30
def B1 (P:PT):Y k0:=fun x5 H=>
  AC Tryz.prog T0 112 [x5,(Value.func (.func 113) ⟨[]⟩ ⟨[]⟩)] H (fun v1 H2=>asB v1 (fun v3=>P (Value.bool v3) H2))
theorem q1 P:Q o1 (ret P) k0 (B1 P):=fun _ _ _=>by kernel_rfl
abbrev k1:Sk:=[(5,.v),(10,.v),(11,J),(12,J)]
def o3:=O 935
def B3 (P:PT) (N2:Y k1):Y k1:=fun x5 x10 x11 x12 H=>
  N2 x5 x10 x11 (IntKind.i64.wrap (x12+1)) H
theorem q3 P N2:Q o3 (E k1 N2) k1 (B3 P N2):=fun _ _ _ _ _ _=>by kernel_rfl
abbrev k2:Sk:=[(5,.v),(7,.x),(10,.v),(11,J),(12,J)]
def o4:=O 7475
def B4 (P:PT) (N2:Y k1):Y k2:=fun x5 x7 x10 x11 x12 H=>
  ldI .i64 H x7 1 (fun v1=>idxK x5 v1 1 (fun b2 o3=>ldI .i64 H b2 o3 (fun v4=>idxK x5 v1 1 (fun b5 o6=>stK H b5 o6 [(Value.int .i64 (IntKind.i64.wrap (v4+1)))] (fun H7=>B3 P N2 x5 x10 x11 x12 H7)))))
theorem q4 P N2:Q o4 (E k1 (B3 P N2)) k2 (B4 P N2):=fun _ _ _ _ _ _ _=>by kernel_rfl
def o5:=O 7474
def B5 (P:PT) (N2:Y k1):Y k2:=fun x5 x7 x10 x11 x12 H=>
  ldI .i64 H x7 0 (fun v1=>idxK x5 v1 1 (fun b2 o3=>ldI .i64 H b2 o3 (fun v4=>idxK x5 v1 1 (fun b5 o6=>stK H b5 o6 [(Value.int .i64 (IntKind.i64.wrap (v4+1)))] (fun H7=>B4 P N2 x5 x7 x10 x11 x12 H7)))))
theorem q5 P N2:Q o5 (E k2 (B4 P N2)) k2 (B5 P N2):=fun _ _ _ _ _ _ _=>by kernel_rfl
def o6:=O 3736
def B6 (P:PT) (N2:Y k1):Y k1:=fun x5 x10 x11 x12 H=>
  idxK x10 x12 2 (fun b1 o2=>ldI .i64 H b1 o2 (fun v3=>ldI .i64 H b1 (o2+1) (fun v4=>newK H [(Value.int .i64 0),(Value.int .i64 0)] 84 (fun b5 H6=>stK H6 b5 0 [(Value.int .i64 v3),(Value.int .i64 v4)] (fun H7=>B5 P N2 x5 b5 x10 x11 x12 H7)))))
theorem q6 P N2:Q o6 (E k2 (B5 P N2)) k1 (B6 P N2):=fun _ _ _ _ _ _=>by kernel_rfl
def o7:=O 232
def B7 (P:PT) (N2:Y k1):Y k1:=fun x5 x10 x11 x12 H=>
  pif (decide ((x12:Int)<x11)) (B6 P N2 x5 x10 x11 x12 H) (B1 P x5 H)
theorem q7 P N2:Q o7 (cnd 13 (E k1 (B6 P N2)) (E k0 (B1 P))) k1 (B7 P N2):=fun _ _ _ _ _ _=>by kernel_rfl
def L2 (P:PT):Y k1:=fun x5 x10 x11 x12 H=>
  ∃ (I:Y k1) (μ:NTy k1 (AHeap→Nat)),I x5 x10 x11 x12 H∧∀ y5 y10 y11 y12 G,I y5 y10 y11 y12 G→B7 P (fun z5 z10 z11 z12 G'=>I z5 z10 z11 z12 G'∧μ z5 z10 z11 z12 G'<μ y5 y10 y11 y12 G) y5 y10 y11 y12 G
theorem l2 P:LQ k1 (L2 P) (B7 P):=fun ⟨_,_,_,_,_⟩ _ ⟨I,μ,h0,hI⟩=>⟨apT _ I,apT _ μ,h0,fun ⟨_,_,_,_,_⟩ _ h=>hI _ _ _ _ _  h⟩
abbrev k3:Sk:=[(1,.v),(5,.v)]
def o8:=O 28
def B8 (P:PT):Y k3:=fun x1 x5 H=>
  lenK x1 (fun n1=>L2 P x5 x1 (n1:Int) 0 H)
theorem q8 P:Q o8 (E k1 (L2 P)) k3 (B8 P):=fun _ _ _ _=>by kernel_rfl
abbrev k4:Sk:=[(0,J),(1,.v)]
def o9:=O 6
def B9 (P:PT):Y k4:=fun x0 x1 H=>
  mkR H 8 3 [(Value.int .i64 0)] x0 x0 (fun v2 H1=>B8 P x1 v2 H1)
theorem q9 P:Q o9 (E k3 (B8 P)) k4 (B9 P):=fun _ _ _ _=>by kernel_rfl
def o10:=O 2
def B10 (P:PT):Y k4:=fun x0 x1 H=>
  B9 P x0 x1 H
theorem q10 P:Q o10 (E k4 (B9 P)) k4 (B10 P):=fun _ _ _ _=>by kernel_rfl
def code:Code:=(.seq (R 0 o10) (.seq (R 1 o9) (.seq (.seq (R 2 o8) (.block 0 (.loop (.seq (R 3 o7) (.seq (.cond (.tmp 13) .skip (.exit 0)) (.seq (.block 1 (.seq (R 4 o6) (.seq (R 5 o5) (R 6 o4)))) (R 7 o3))))))) (.seq (R 8 o1) .ret))))
theorem body:Tryz.f89.body=some code:=by kernel_rfl
theorem main (P:PT):∀ env H,(En 33 k4 (B10 P)) env H→AW Tryz.prog T0 code env H (M (ret P)):=
  (r_seq (b (q10 P)) (r_seq (b (q9 P)) (r_seq (r_seq (b (q8 P)) (r_block (rL (l2 P) (fun N2=>(r_seq (b (q7 P N2)) (r_seq (r_cond rfl r_skip (r_exit (fun _ _ h=>h))) (r_seq (r_block (r_seq (b (q6 P N2)) (r_seq (b (q5 P N2)) (b (q4 P N2))))) (b (q3 P N2))))))))) (r_seq (b (q1 P)) r_ret))))
theorem ac (P:PT) (x0:Int) (x1:Value) (H:AHeap) (h:B10 P x0 x1 H):AC Tryz.prog T0 89 [(Value.int .i64 x0),x1] H P:=
  r_fn T0_ok (c:=code) (n:=33) Tryz.func89 body (by kernel_rfl) (main P) (En_mk (x0,x1,()) (by kernel_rfl) ⟨by kernel_rfl,by kernel_rfl,trivial⟩ h)

end F89
namespace F90
abbrev E:=En 59
abbrev Q:=QB Tryz.prog T0 59
def O (k:Nat):=ob Tryz.f90 (pth k)
def ret (P:PT):EP:=retE T0 59 Tryz.f90 P
abbrev k0:Sk:=[]
def o1:=O 62
def B1 (P:PT):Y k0:=fun H=>
  P (Value.bool false) H
theorem q1 P:Q o1 (ret P) k0 (B1 P):=fun _ _=>by kernel_rfl
abbrev k1:Sk:=[(0,.i .u64),(1,.i .u64),(2,.v),(4,.v),(8,J),(26,.v),(27,J),(28,J)]
def o3:=O 1959
def B3 (P:PT) (N2:Y k1):Y k1:=fun x0 x1 x2 x4 x8 x26 x27 x28 H=>
  N2 x0 x1 x2 x4 x8 x26 x27 (IntKind.i64.wrap (x28+1)) H
theorem q3 P N2:Q o3 (E k1 N2) k1 (B3 P N2):=fun _ _ _ _ _ _ _ _ _ _=>by kernel_rfl
def o4:=O 125340
def B4 (P:PT) (N2:Y k1):Y k0:=fun H=>
  P (Value.bool true) H
theorem q4 P N2:Q o4 (ret P) k0 (B4 P N2):=fun _ _=>by kernel_rfl
abbrev k2:Sk:=[(0,.i .u64),(1,.i .u64),(2,.v),(4,.v),(8,J),(10,J),(11,J),(26,.v),(27,J),(28,J)]
def o5:=O 31334
def B5 (P:PT) (N2:Y k1):Y k2:=fun x0 x1 x2 x4 x8 x10 x11 x26 x27 x28 H=>
  AC Tryz.prog T0 42 [(Value.int .u64 x1),(Value.int .i64 x11)] H (fun v1 H2=>asB v1 (fun v3=>pif (!v3) (asP x4 (fun b4 o5=>ld1 H2 b4 o5 (fun v6=>((0:Int)≤x10)∧(((0:Int)≤x8)∧(((0:Int)≤x11)∧(callV Tryz.prog T0 v6 [(Value.int .u64 (IntKind.u64.wrap (BitVec.ofInt 64 x0|||BitVec.ofInt 64 (IntKind.u64.wrap (1*2^(min (Int.toNat x10) 64)))).toNat)),(Value.int .u64 (IntKind.u64.wrap (BitVec.ofInt 64 (IntKind.u64.wrap (BitVec.ofInt 64 x1|||BitVec.ofInt 64 (IntKind.u64.wrap (1*2^(min (Int.toNat x8) 64)))).toNat)|||BitVec.ofInt 64 (IntKind.u64.wrap (1*2^(min (Int.toNat x11) 64)))).toNat))] H2 (fun v7 H8=>asB v7 (fun v9=>pif v9 (B4 P N2 H8) (B3 P N2 x0 x1 x2 x4 x8 x26 x27 x28 H8))))))))) (B3 P N2 x0 x1 x2 x4 x8 x26 x27 x28 H2)))
theorem q5 (P:PT) (N2:Y k1):QD Tryz.prog T0 59 o5 [(0,false),(1,false),(2,false),(3,false),(4,false),(5,false),(6,false),(7,false),(8,false),(9,false),(10,false),(11,false),(12,false),(13,false),(14,false),(15,false),(16,false),(17,false),(18,false)] (cnd 57 (En 59 k0 (B4 P N2)) (En 59 k1 (B3 P N2))) k2 (B5 P N2):=fun _ _ _ _ _ _ _ _ _ _ _ _  => by kernel_rfl
abbrev k3:Sk:=[(0,.i .u64),(1,.i .u64),(2,.v),(4,.v),(8,J),(10,J),(26,.v),(27,J),(28,J)]
def o6:=O 15666
def B6 (P:PT) (N2:Y k1):Y k3:=fun x0 x1 x2 x4 x8 x10 x26 x27 x28 H=>
  asP x2 (fun b1 o2=>ld1 H b1 (o2+1) (fun v3=>idxK v3 x10 2 (fun b4 o5=>ldI .i64 H b4 o5 (fun v6=>ldI .i64 H b4 (o5+1) (fun v7=>AC Tryz.prog T0 92 [(Value.agg ⟨[(Value.int .i64 v6),(Value.int .i64 v7)]⟩),(Value.int .i64 x8)] H (fun v8 H9=>asI .i64 v8 (fun v10=>B5 P N2 x0 x1 x2 x4 x8 x10 v10 x26 x27 x28 H9)))))))
theorem q6 P N2:Q o6 (E k2 (B5 P N2)) k3 (B6 P N2):=fun _ _ _ _ _ _ _ _ _ _ _=>by kernel_rfl
def o7:=O 7832
def B7 (P:PT) (N2:Y k1):Y k1:=fun x0 x1 x2 x4 x8 x26 x27 x28 H=>
  idxK x26 x28 1 (fun b1 o2=>ldI .i64 H b1 o2 (fun v3=>B6 P N2 x0 x1 x2 x4 x8 v3 x26 x27 x28 H))
theorem q7 P N2:Q o7 (E k3 (B6 P N2)) k1 (B7 P N2):=fun _ _ _ _ _ _ _ _ _ _=>by kernel_rfl
def o8:=O 488
def B8 (P:PT) (N2:Y k1):Y k1:=fun x0 x1 x2 x4 x8 x26 x27 x28 H=>
  pif (decide ((x28:Int)<x27)) (B7 P N2 x0 x1 x2 x4 x8 x26 x27 x28 H) (B1 P H)
theorem q8 P N2:Q o8 (cnd 29 (E k1 (B7 P N2)) (E k0 (B1 P))) k1 (B8 P N2):=fun _ _ _ _ _ _ _ _ _ _=>by kernel_rfl
def L2 (P:PT):Y k1:=fun x0 x1 x2 x4 x8 x26 x27 x28 H=>
  ∃ (I:Y k1) (μ:NTy k1 (AHeap→Nat)),I x0 x1 x2 x4 x8 x26 x27 x28 H∧∀ y0 y1 y2 y4 y8 y26 y27 y28 G,I y0 y1 y2 y4 y8 y26 y27 y28 G→B8 P (fun z0 z1 z2 z4 z8 z26 z27 z28 G'=>I z0 z1 z2 z4 z8 z26 z27 z28 G'∧μ z0 z1 z2 z4 z8 z26 z27 z28 G'<μ y0 y1 y2 y4 y8 y26 y27 y28 G) y0 y1 y2 y4 y8 y26 y27 y28 G
theorem l2 P:LQ k1 (L2 P) (B8 P):=fun ⟨_,_,_,_,_,_,_,_,_⟩ _ ⟨I,μ,h0,hI⟩=>⟨apT _ I,apT _ μ,h0,fun ⟨_,_,_,_,_,_,_,_,_⟩ _ h=>hI _ _ _ _ _ _ _ _ _  h⟩
abbrev k4:Sk:=[(0,.i .u64),(1,.i .u64),(2,.v),(4,.v),(8,J)]
def o9:=O 60
def B9 (P:PT):Y k4:=fun x0 x1 x2 x4 x8 H=>
  asP x2 (fun b1 o2=>ldI .i64 H b1 o2 (fun v3=>ld1 H b1 (o2+1) (fun v4=>AC Tryz.prog T0 63 [(Value.agg ⟨[(Value.int .i64 v3),v4]⟩),(Value.int .i64 x8)] H (fun v5 H6=>lenK v5 (fun n8=>L2 P x0 x1 x2 x4 x8 v5 (n8:Int) 0 H6)))))
theorem q9 P:Q o9 (E k1 (L2 P)) k4 (B9 P):=fun _ _ _ _ _ _ _=>by kernel_rfl
abbrev k5:Sk:=[(0,.i .u64),(1,.i .u64),(2,.v),(4,.v)]
def o10:=O 14
def B10 (P:PT):Y k5:=fun x0 x1 x2 x4 H=>
  AC Tryz.prog T0 91 [(Value.int .u64 (IntKind.u64.wrap (BitVec.ofInt 64 18446744073709551615 ^^^ BitVec.ofInt 64 x1).toNat))] H (fun v1 H2=>asI .i64 v1 (fun v3=>B9 P x0 x1 x2 x4 v3 H2))
theorem q10 P:Q o10 (E k4 (B9 P)) k5 (B10 P):=fun _ _ _ _ _ _=>by kernel_rfl
abbrev k6:Sk:=[(0,.i .u64),(3,.v)]
def o11:=O 52
def B11 (P:PT):Y k6:=fun x0 x3 H=>
  asP x3 (fun b1 o2=>ld1 H b1 o2 (fun v3=>callV Tryz.prog T0 v3 [(Value.int .u64 x0)] H (fun v4 H5=>asB v4 (fun v6=>P (Value.bool v6) H5))))
theorem q11 P:Q o11 (ret P) k6 (B11 P):=fun _ _ _ _=>by kernel_rfl
abbrev k7:Sk:=[(0,.i .u64),(1,.i .u64),(2,.v),(3,.v),(4,.v)]
def o12:=O 12
def B12 (P:PT):Y k7:=fun x0 x1 x2 x3 x4 H=>
  asP x2 (fun b1 o2=>ldI .i64 H b1 o2 (fun v3=>((0:Int)≤v3)∧(pif ((x1:Int)==(IntKind.u64.wrap ((IntKind.u64.wrap (1*2^(min (Int.toNat v3) 64)))-1))) (B11 P x0 x3 H) (B10 P x0 x1 x2 x4 H))))
theorem q12 P:Q o12 (cnd 17 (E k6 (B11 P)) (E k5 (B10 P))) k7 (B12 P):=fun _ _ _ _ _ _ _=>by kernel_rfl
def o13:=O 2
def B13 (P:PT):Y k7:=fun x0 x1 x2 x3 x4 H=>
  B12 P x0 x1 x2 x3 x4 H
theorem q13 P:Q o13 (E k7 (B12 P)) k7 (B13 P):=fun _ _ _ _ _ _ _=>by kernel_rfl
def code:Code:=(.seq (R 0 o13) (.seq (.seq (R 1 o12) (.cond (.tmp 17) (.seq (R 2 o11) .ret) .skip)) (.seq (R 3 o10) (.seq (.seq (R 4 o9) (.block 0 (.loop (.seq (R 5 o8) (.seq (.cond (.tmp 29) .skip (.exit 0)) (.seq (.block 1 (.seq (R 6 o7) (.seq (R 7 o6) (.seq (.region 8 ⟨o5⟩ true) (.cond (.tmp 57) (.seq (R 9 o4) .ret) .skip))))) (R 10 o3))))))) (.seq (R 11 o1) .ret)))))
theorem body:Tryz.f90.body=some code:=by kernel_rfl
theorem main (P:PT):∀ env H,(En 59 k7 (B13 P)) env H→AW Tryz.prog T0 code env H (M (ret P)):=
  (r_seq (b (q13 P)) (r_seq (r_seq (b (q12 P)) (r_cond rfl (r_seq (b (q11 P)) r_ret) r_skip)) (r_seq (b (q10 P)) (r_seq (r_seq (b (q9 P)) (r_block (rL (l2 P) (fun N2=>(r_seq (b (q8 P N2)) (r_seq (r_cond rfl r_skip (r_exit (fun _ _ h=>h))) (r_seq (r_block (r_seq (b (q7 P N2)) (r_seq (b (q6 P N2)) (r_seq (rD T0_ok mixed [(0,false),(1,false),(2,false),(3,false),(4,false),(5,false),(6,false),(7,false),(8,false),(9,false),(10,false),(11,false),(12,false),(13,false),(14,false),(15,false),(16,false),(17,false),(18,false)] (by kernel_rfl) (q5 P N2)) (r_cond rfl (r_seq (b (q4 P N2)) r_ret) r_skip))))) (b (q3 P N2))))))))) (r_seq (b (q1 P)) r_ret)))))
theorem ac (P:PT) (x0 x1:Int) (x2 x3 x4:Value) (H:AHeap) (h:B13 P x0 x1 x2 x3 x4 H):AC Tryz.prog T0 90 [(Value.int .u64 x0),(Value.int .u64 x1),x2,x3,x4] H P:=
  r_fn T0_ok (c:=code) (n:=59) Tryz.func90 body (by kernel_rfl) (main P) (En_mk (x0,x1,x2,x3,x4,()) (by kernel_rfl) ⟨by kernel_rfl,by kernel_rfl,by kernel_rfl,by kernel_rfl,by kernel_rfl,trivial⟩ h)

end F90
namespace F91
abbrev E:=En 14
abbrev Q:=QB Tryz.prog T0 14
def O (k:Nat):=ob Tryz.f91 (pth k)
def ret (P:PT):EP:=retE T0 14 Tryz.f91 P
abbrev k0:Sk:=[(0,.i .u64)]
def o1:=O 14
def B1 (P:PT):Y k0:=fun x0 H=>
  ((0:Int)≤58)∧(bndK (Int.fdiv (IntKind.u64.wrap ((IntKind.u64.wrap (BitVec.ofInt 64 x0&&&BitVec.ofInt 64 (IntKind.u64.wrap (0-x0))).toNat)*285870213051353865)) (2^(min (Int.toNat 58) 64))) 64 (ldI .u8 H 0 (offAt 0 (Int.fdiv (IntKind.u64.wrap ((IntKind.u64.wrap (BitVec.ofInt 64 x0&&&BitVec.ofInt 64 (IntKind.u64.wrap (0-x0))).toNat)*285870213051353865)) (2^(min (Int.toNat 58) 64))) 1) (fun v1=>P (Value.int .i64 (IntKind.i64.wrap v1)) H)))
theorem p1 (u:Nat→Value) (x0:Int) (H:AHeap) (Q:EP):aOps Tryz.prog T0 o1 (o1.take 6) [.int .u64 x0,u 1,u 2,u 3,u 4,u 5,u 6,u 7,u 8,u 9,u 10,u 11,u 12,u 13] H Q=((0:Int)≤58∧Q [.int .u64 x0,u 1,u 2,u 3,u 4,.int .u64 x0,.int .u64 x0,.int .u64 (IntKind.u64.wrap (0-x0)),.int .u64 (IntKind.u64.wrap (BitVec.ofInt 64 x0&&&BitVec.ofInt 64 (IntKind.u64.wrap (0-x0))).toNat),.int .u64 (IntKind.u64.wrap ((IntKind.u64.wrap (BitVec.ofInt 64 x0&&&BitVec.ofInt 64 (IntKind.u64.wrap (0-x0))).toNat)*285870213051353865)),.int .u64 (Int.fdiv (IntKind.u64.wrap ((IntKind.u64.wrap (BitVec.ofInt 64 x0&&&BitVec.ofInt 64 (IntKind.u64.wrap (0-x0))).toNat)*285870213051353865)) (2^(min (Int.toNat 58) 64))),u 11,u 12,u 13] H):=by kernel_rfl
theorem p2 (P:PT) (u:Nat→Value) (a b c d e:Value) (n:Int) (H:AHeap):aOps Tryz.prog T0 o1 (o1.drop 6) [a,u 1,u 2,u 3,u 4,a,b,c,d,e,.int .u64 n,u 11,u 12,u 13] H (ret P)=bndK n 64 (ldI .u8 H 0 (offAt 0 n 1) (fun v1=>P (Value.int .i64 (IntKind.i64.wrap v1)) H)):=by kernel_rfl
theorem q1 P:Q o1 (ret P) k0 (B1 P):=fun u x0 H=>(aOps_cut Tryz.prog T0 o1 o1 6 _ H _).trans ((p1 u x0 H _).trans (congrArg _ (p2 P u _ _ _ _ _ _ H)))
abbrev k1:Sk:=[]
def o2:=O 52
def B2 (P:PT):Y k1:=fun H=>
  P (Value.int .i64 64) H
theorem q2 P:Q o2 (ret P) k1 (B2 P):=fun _ _=>by kernel_rfl
def o3:=O 12
def B3 (P:PT):Y k0:=fun x0 H=>
  pif ((x0:Int)==0) (B2 P H) (B1 P x0 H)
theorem q3 P:Q o3 (cnd 4 (E k1 (B2 P)) (E k0 (B1 P))) k0 (B3 P):=fun _ _ _=>by kernel_rfl
def o4:=O 2
def B4 (P:PT):Y k0:=fun x0 H=>
  B3 P x0 H
theorem q4 P:Q o4 (E k0 (B3 P)) k0 (B4 P):=fun _ _ _=>by kernel_rfl
def code:Code:=(.seq (R 0 o4) (.seq (.seq (R 1 o3) (.cond (.tmp 4) (.seq (R 2 o2) .ret) .skip)) (.seq (R 3 o1) .ret)))
theorem body:Tryz.f91.body=some code:=by kernel_rfl
theorem main (P:PT):∀ env H,(En 14 k0 (B4 P)) env H→AW Tryz.prog T0 code env H (M (ret P)):=
  (r_seq (b (q4 P)) (r_seq (r_seq (b (q3 P)) (r_cond rfl (r_seq (b (q2 P)) r_ret) r_skip)) (r_seq (b (q1 P)) r_ret)))
theorem ac (P:PT) (x0:Int) (H:AHeap) (h:B4 P x0 H):AC Tryz.prog T0 91 [(Value.int .u64 x0)] H P:=
  r_fn T0_ok (c:=code) (n:=14) Tryz.func91 body (by kernel_rfl) (main P) (En_mk (x0,()) (by kernel_rfl) ⟨by kernel_rfl,trivial⟩ h)

end F91
namespace F92
abbrev E:=En 12
abbrev Q:=QB Tryz.prog T0 12
def O (k:Nat):=ob Tryz.f92 (pth k)
def ret (P:PT):EP:=retE T0 12 Tryz.f92 P
abbrev k0:Sk:=[(1,J),(2,.x)]
def o1:=O 6
def B1 (P:PT):Y k0:=fun x1 x2 H=>
  ldI .i64 H x2 0 (fun v1=>ldI .i64 H x2 1 (fun v2=>P (Value.int .i64 (IntKind.i64.wrap ((IntKind.i64.wrap (v1+v2))-x1))) H))
theorem q1 P:Q o1 (ret P) k0 (B1 P):=fun _ _ _ _=>by kernel_rfl
abbrev k1:Sk:=[(0,.g [.i,.i]),(1,J)]
def o2:=O 2
def B2 (P:PT):Y k1:=fun x0a x0b x1 H=>
  newK H [(Value.int .i64 x0a),(Value.int .i64 x0b)] 84 (fun b1 H2=>B1 P x1 b1 H2)
theorem q2 P:Q o2 (E k0 (B1 P)) k1 (B2 P):=fun _ _ _ _ _=>by kernel_rfl
def code:Code:=(.seq (R 0 o2) (.seq (R 1 o1) .ret))
theorem body:Tryz.f92.body=some code:=by kernel_rfl
theorem main (P:PT):∀ env H,(En 12 k1 (B2 P)) env H→AW Tryz.prog T0 code env H (M (ret P)):=
  (r_seq (b (q2 P)) (r_seq (b (q1 P)) r_ret))
theorem ac (P:PT) (x0a x0b x1:Int) (H:AHeap) (h:B2 P x0a x0b x1 H):AC Tryz.prog T0 92 [(Value.agg ⟨[(Value.int .i64 x0a),(Value.int .i64 x0b)]⟩),(Value.int .i64 x1)] H P:=
  r_fn T0_ok (c:=code) (n:=12) Tryz.func92 body (by kernel_rfl) (main P) (En_mk (x0a,x0b,x1,()) (by kernel_rfl) ⟨by kernel_rfl,by kernel_rfl,trivial⟩ h)

end F92
namespace F93
abbrev E:=En 15
abbrev Q:=QB Tryz.prog T0 15
def O (k:Nat):=ob Tryz.f93 (pth k)
def ret (P:PT):EP:=retE T0 15 Tryz.f93 P
abbrev k0:Sk:=[(0,J),(1,J),(2,J)]
def o1:=O 6
def B1 (P:PT):Y k0:=fun x0 x1 x2 H=>
  pif (decide ((x0:Int)≥x1)) (P (Value.bool (decide ((x0:Int)≤x2))) H) (P (Value.bool false) H)
theorem q1 P:Q o1 (ret P) k0 (B1 P):=fun _ _ _ _ _=>by kernel_rfl
def o2:=O 2
def B2 (P:PT):Y k0:=fun x0 x1 x2 H=>
  B1 P x0 x1 x2 H
theorem q2 P:Q o2 (E k0 (B1 P)) k0 (B2 P):=fun _ _ _ _ _=>by kernel_rfl
def code:Code:=(.seq (R 0 o2) (.seq (R 1 o1) .ret))
theorem body:Tryz.f93.body=some code:=by kernel_rfl
theorem main (P:PT):∀ env H,(En 15 k0 (B2 P)) env H→AW Tryz.prog T0 code env H (M (ret P)):=
  (r_seq (b (q2 P)) (r_seq (b (q1 P)) r_ret))
theorem ac (P:PT) (x0 x1 x2:Int) (H:AHeap) (h:B2 P x0 x1 x2 H):AC Tryz.prog T0 93 [(Value.int .i64 x0),(Value.int .i64 x1),(Value.int .i64 x2)] H P:=
  r_fn T0_ok (c:=code) (n:=15) Tryz.func93 body (by kernel_rfl) (main P) (En_mk (x0,x1,x2,()) (by kernel_rfl) ⟨by kernel_rfl,by kernel_rfl,by kernel_rfl,trivial⟩ h)

end F93
namespace F94
abbrev E:=En 15
abbrev Q:=QB Tryz.prog T0 15
def O (k:Nat):=ob Tryz.f94 (pth k)
def ret (P:PT):EP:=retE T0 15 Tryz.f94 P
abbrev k0:Sk:=[(0,J),(1,J),(2,J)]
def o1:=O 6
def B1 (P:PT):Y k0:=fun x0 x1 x2 H=>
  pif (decide ((x1:Int)≤x0)) (P (Value.bool (decide ((x0:Int)≤x2))) H) (P (Value.bool false) H)
theorem q1 P:Q o1 (ret P) k0 (B1 P):=fun _ _ _ _ _=>by kernel_rfl
def o2:=O 2
def B2 (P:PT):Y k0:=fun x0 x1 x2 H=>
  B1 P x0 x1 x2 H
theorem q2 P:Q o2 (E k0 (B1 P)) k0 (B2 P):=fun _ _ _ _ _=>by kernel_rfl
def code:Code:=(.seq (R 0 o2) (.seq (R 1 o1) .ret))
theorem body:Tryz.f94.body=some code:=by kernel_rfl
theorem main (P:PT):∀ env H,(En 15 k0 (B2 P)) env H→AW Tryz.prog T0 code env H (M (ret P)):=
  (r_seq (b (q2 P)) (r_seq (b (q1 P)) r_ret))
theorem ac (P:PT) (x0 x1 x2:Int) (H:AHeap) (h:B2 P x0 x1 x2 H):AC Tryz.prog T0 94 [(Value.int .i64 x0),(Value.int .i64 x1),(Value.int .i64 x2)] H P:=
  r_fn T0_ok (c:=code) (n:=15) Tryz.func94 body (by kernel_rfl) (main P) (En_mk (x0,x1,x2,()) (by kernel_rfl) ⟨by kernel_rfl,by kernel_rfl,by kernel_rfl,trivial⟩ h)

end F94
namespace F95
abbrev E:=En 35
abbrev Q:=QB Tryz.prog T0 35
def O (k:Nat):=ob Tryz.f95 (pth k)
def ret (P:PT):EP:=retE T0 35 Tryz.f95 P
abbrev k0:Sk:=[(0,.i .u64)]
def o1:=O 510
def B1 (P:PT):Y k0:=fun x0 H=>
  P (Value.int .i64 (IntKind.i64.wrap (BitVec.ofInt 64 (IntKind.i64.wrap x0)&&&BitVec.ofInt 64 127).toNat)) H
theorem q1 P:Q o1 (ret P) k0 (B1 P):=fun _ _ _=>by kernel_rfl
def o2:=O 254
def B2 (P:PT):Y k0:=fun x0 H=>
  ((0:Int)≤32)∧(B1 P (IntKind.u64.wrap (x0+(Int.fdiv x0 (2^(min (Int.toNat 32) 64))))) H)
theorem q2 P:Q o2 (E k0 (B1 P)) k0 (B2 P):=fun _ _ _=>by kernel_rfl
def o3:=O 126
def B3 (P:PT):Y k0:=fun x0 H=>
  ((0:Int)≤16)∧(B2 P (IntKind.u64.wrap (x0+(Int.fdiv x0 (2^(min (Int.toNat 16) 64))))) H)
theorem q3 P:Q o3 (E k0 (B2 P)) k0 (B3 P):=fun _ _ _=>by kernel_rfl
def o4:=O 62
def B4 (P:PT):Y k0:=fun x0 H=>
  ((0:Int)≤8)∧(B3 P (IntKind.u64.wrap (x0+(Int.fdiv x0 (2^(min (Int.toNat 8) 64))))) H)
theorem q4 P:Q o4 (E k0 (B3 P)) k0 (B4 P):=fun _ _ _=>by kernel_rfl
def o5:=O 30
def B5 (P:PT):Y k0:=fun x0 H=>
  ((0:Int)≤4)∧(B4 P (IntKind.u64.wrap (BitVec.ofInt 64 (IntKind.u64.wrap ((Int.fdiv x0 (2^(min (Int.toNat 4) 64)))+x0))&&&BitVec.ofInt 64 1085102592571150095).toNat) H)
theorem q5 P:Q o5 (E k0 (B4 P)) k0 (B5 P):=fun _ _ _=>by kernel_rfl
def o6:=O 14
def B6 (P:PT):Y k0:=fun x0 H=>
  ((0:Int)≤2)∧(B5 P (IntKind.u64.wrap ((IntKind.u64.wrap (BitVec.ofInt 64 (Int.fdiv x0 (2^(min (Int.toNat 2) 64)))&&&BitVec.ofInt 64 3689348814741910323).toNat)+(IntKind.u64.wrap (BitVec.ofInt 64 x0&&&BitVec.ofInt 64 3689348814741910323).toNat))) H)
theorem q6 P:Q o6 (E k0 (B5 P)) k0 (B6 P):=fun _ _ _=>by kernel_rfl
def o7:=O 6
def B7 (P:PT):Y k0:=fun x0 H=>
  ((0:Int)≤1)∧(B6 P (IntKind.u64.wrap ((IntKind.u64.wrap (BitVec.ofInt 64 (Int.fdiv x0 (2^(min (Int.toNat 1) 64)))&&&BitVec.ofInt 64 6148914691236517205).toNat)+(IntKind.u64.wrap (BitVec.ofInt 64 x0&&&BitVec.ofInt 64 6148914691236517205).toNat))) H)
theorem q7 P:Q o7 (E k0 (B6 P)) k0 (B7 P):=fun _ _ _=>by kernel_rfl
def o8:=O 2
def B8 (P:PT):Y k0:=fun x0 H=>
  B7 P x0 H
theorem q8 P:Q o8 (E k0 (B7 P)) k0 (B8 P):=fun _ _ _=>by kernel_rfl
def code:Code:=(.seq (R 0 o8) (.seq (R 1 o7) (.seq (R 2 o6) (.seq (R 3 o5) (.seq (R 4 o4) (.seq (R 5 o3) (.seq (R 6 o2) (.seq (R 7 o1) .ret))))))))
theorem body:Tryz.f95.body=some code:=by kernel_rfl
theorem main (P:PT):∀ env H,(En 35 k0 (B8 P)) env H→AW Tryz.prog T0 code env H (M (ret P)):=
  (r_seq (b (q8 P)) (r_seq (b (q7 P)) (r_seq (b (q6 P)) (r_seq (b (q5 P)) (r_seq (b (q4 P)) (r_seq (b (q3 P)) (r_seq (b (q2 P)) (r_seq (b (q1 P)) r_ret))))))))
theorem ac (P:PT) (x0:Int) (H:AHeap) (h:B8 P x0 H):AC Tryz.prog T0 95 [(Value.int .u64 x0)] H P:=
  r_fn T0_ok (c:=code) (n:=35) Tryz.func95 body (by kernel_rfl) (main P) (En_mk (x0,()) (by kernel_rfl) ⟨by kernel_rfl,trivial⟩ h)

end F95
namespace F96
abbrev E:=En 7
abbrev Q:=QB Tryz.prog T0 7
def O (k:Nat):=ob Tryz.f96 (pth k)
def ret (P:PT):EP:=retE T0 7 Tryz.f96 P
abbrev k0:Sk:=[(0,.i .u64),(1,.v)]
def o1:=O 6
def B1 (P:PT):Y k0:=fun x0 x1 H=>
  asP x1 (fun b1 o2=>ldI .i64 H b1 o2 (fun v3=>AC Tryz.prog T0 42 [(Value.int .u64 x0),(Value.int .i64 v3)] H (fun v4 H5=>asB v4 (fun v6=>P (Value.bool v6) H5))))
theorem q1 P:Q o1 (ret P) k0 (B1 P):=fun _ _ _ _=>by kernel_rfl
def o2:=O 2
def B2 (P:PT):Y k0:=fun x0 x1 H=>
  B1 P x0 x1 H
theorem q2 P:Q o2 (E k0 (B1 P)) k0 (B2 P):=fun _ _ _ _=>by kernel_rfl
def code:Code:=(.seq (R 0 o2) (.seq (R 1 o1) .ret))
theorem body:Tryz.f96.body=some code:=by kernel_rfl
theorem main (P:PT):∀ env H,(En 7 k0 (B2 P)) env H→AW Tryz.prog T0 code env H (M (ret P)):=
  (r_seq (b (q2 P)) (r_seq (b (q1 P)) r_ret))
theorem ac (P:PT) (x0:Int) (x1:Value) (H:AHeap) (h:B2 P x0 x1 H):AC Tryz.prog T0 96 [(Value.int .u64 x0),x1] H P:=
  r_fn T0_ok (c:=code) (n:=7) Tryz.func96 body (by kernel_rfl) (main P) (En_mk (x0,x1,()) (by kernel_rfl) ⟨by kernel_rfl,by kernel_rfl,trivial⟩ h)

end F96
namespace F97
abbrev E:=En 15
abbrev Q:=QB Tryz.prog T0 15
def O (k:Nat):=ob Tryz.f97 (pth k)
def ret (P:PT):EP:=retE T0 15 Tryz.f97 P
abbrev k0:Sk:=[(1,J),(2,.x)]
def o1:=O 6
def B1 (P:PT):Y k0:=fun x1 x2 H=>
  ldI .i64 H x2 0 (fun v1=>pif ((v1:Int)==x1) (P (Value.bool true) H) (ldI .i64 H x2 1 (fun v2=>P (Value.bool ((v2:Int)==x1)) H)))
theorem q1 P:Q o1 (ret P) k0 (B1 P):=fun _ _ _ _=>by kernel_rfl
abbrev k1:Sk:=[(0,.g [.i,.i]),(1,J)]
def o2:=O 2
def B2 (P:PT):Y k1:=fun x0a x0b x1 H=>
  newK H [(Value.int .i64 x0a),(Value.int .i64 x0b)] 84 (fun b1 H2=>B1 P x1 b1 H2)
theorem q2 P:Q o2 (E k0 (B1 P)) k1 (B2 P):=fun _ _ _ _ _=>by kernel_rfl
def code:Code:=(.seq (R 0 o2) (.seq (R 1 o1) .ret))
theorem body:Tryz.f97.body=some code:=by kernel_rfl
theorem main (P:PT):∀ env H,(En 15 k1 (B2 P)) env H→AW Tryz.prog T0 code env H (M (ret P)):=
  (r_seq (b (q2 P)) (r_seq (b (q1 P)) r_ret))
theorem ac (P:PT) (x0a x0b x1:Int) (H:AHeap) (h:B2 P x0a x0b x1 H):AC Tryz.prog T0 97 [(Value.agg ⟨[(Value.int .i64 x0a),(Value.int .i64 x0b)]⟩),(Value.int .i64 x1)] H P:=
  r_fn T0_ok (c:=code) (n:=15) Tryz.func97 body (by kernel_rfl) (main P) (En_mk (x0a,x0b,x1,()) (by kernel_rfl) ⟨by kernel_rfl,by kernel_rfl,trivial⟩ h)

end F97
namespace F98
abbrev E:=En 6
abbrev Q:=QB Tryz.prog T0 6
def O (k:Nat):=ob Tryz.f98 (pth k)
def ret (P:PT):EP:=retE T0 6 Tryz.f98 P
abbrev k0:Sk:=[(0,.v)]
def o1:=O 6
def B1 (P:PT):Y k0:=fun x0 H=>
  newK H [] 2 (fun b1 H2=>apK T0 2 H2 (Value.slice (some ⟨b1,0,none⟩) 0 (0+1)) x0 (fun v3 H4=>P v3 H4))
theorem q1 P:Q o1 (ret P) k0 (B1 P):=fun _ _ _=>by kernel_rfl
def o2:=O 2
def B2 (P:PT):Y k0:=fun x0 H=>
  B1 P x0 H
theorem q2 P:Q o2 (E k0 (B1 P)) k0 (B2 P):=fun _ _ _=>by kernel_rfl
def code:Code:=(.seq (R 0 o2) (.seq (R 1 o1) .ret))
theorem body:Tryz.f98.body=some code:=by kernel_rfl
theorem main (P:PT):∀ env H,(En 6 k0 (B2 P)) env H→AW Tryz.prog T0 code env H (M (ret P)):=
  (r_seq (b (q2 P)) (r_seq (b (q1 P)) r_ret))
theorem ac (P:PT) (x0:Value) (H:AHeap) (h:B2 P x0 H):AC Tryz.prog T0 98 [x0] H P:=
  r_fn T0_ok (c:=code) (n:=6) Tryz.func98 body (by kernel_rfl) (main P) (En_mk (x0,()) (by kernel_rfl) ⟨by kernel_rfl,trivial⟩ h)

end F98
namespace F99
abbrev E:=En 46
abbrev Q:=QB Tryz.prog T0 46
def O (k:Nat):=ob Tryz.f99 (pth k)
def ret (P:PT):EP:=retE T0 46 Tryz.f99 P
abbrev k0:Sk:=[(5,.v)]
def o1:=O 62
def B1 (P:PT):Y k0:=fun x5 H=>
  P x5 H
theorem q1 P:Q o1 (ret P) k0 (B1 P):=fun _ _ _=>by kernel_rfl
abbrev k1:Sk:=[(1,.i .u64),(2,.x),(5,.v),(6,.i .u64),(12,J),(13,J)]
def o3:=O 1959
def B3 (P:PT) (N2:Y k1):Y k1:=fun x1 x2 x5 x6 x12 x13 H=>
  N2 x1 x2 x5 x6 x12 (IntKind.i64.wrap (x13+1)) H
theorem q3 P N2:Q o3 (E k1 N2) k1 (B3 P N2):=fun _ _ _ _ _ _ _ _=>by kernel_rfl
abbrev k2:Sk:=[(1,.i .u64),(2,.x),(5,.v),(6,.i .u64),(8,.v),(12,J),(13,J)]
def o4:=O 62671
def B4 (P:PT) (N2:Y k1):Y k2:=fun x1 x2 x5 x6 x8 x12 x13 H=>
  pif (Value.oneCell' x8) (newK H [x8] 30 (fun b1 H2=>apK T0 30 H2 x5 (Value.slice (some ⟨b1,0,none⟩) 1 (1+1)) (fun v3 H4=>B3 P N2 x1 x2 v3 x6 x12 x13 H4))) False
theorem q4 P N2:Q o4 (E k1 (B3 P N2)) k2 (B4 P N2):=fun _ _ _ _ _ _ _ _ _=>by kernel_rfl
abbrev k3:Sk:=[(1,.i .u64),(2,.x),(5,.v),(6,.i .u64),(8,.v),(12,J),(13,J),(22,.v),(23,J),(24,J)]
def o6:=O 4010919
def B6 (P:PT) (N2:Y k1) (N5:Y k3):Y k3:=fun x1 x2 x5 x6 x8 x12 x13 x22 x23 x24 H=>
  N5 x1 x2 x5 x6 x8 x12 x13 x22 x23 (IntKind.i64.wrap (x24+1)) H
theorem q6 P N2 N5:Q o6 (E k3 N5) k3 (B6 P N2 N5):=fun _ _ _ _ _ _ _ _ _ _ _ _=>by kernel_rfl
abbrev k4:Sk:=[(1,.i .u64),(2,.x),(5,.v),(6,.i .u64),(8,.v),(9,J),(12,J),(13,J),(22,.v),(23,J),(24,J)]
def o7:=O 128349389
def B7 (P:PT) (N2:Y k1) (N5:Y k3):Y k4:=fun x1 x2 x5 x6 x8 x9 x12 x13 x22 x23 x24 H=>
  ((0:Int)≤x9)∧(B6 P N2 N5 x1 x2 x5 (IntKind.u64.wrap (BitVec.ofInt 64 x6|||BitVec.ofInt 64 (IntKind.u64.wrap (1*2^(min (Int.toNat x9) 64)))).toNat) x8 x12 x13 x22 x23 x24 H)
theorem q7 P N2 N5:Q o7 (E k3 (B6 P N2 N5)) k4 (B7 P N2 N5):=fun _ _ _ _ _ _ _ _ _ _ _ _ _=>by kernel_rfl
def o8:=O 128349388
def B8 (P:PT) (N2:Y k1) (N5:Y k3):Y k4:=fun x1 x2 x5 x6 x8 x9 x12 x13 x22 x23 x24 H=>
  newK H [(Value.int .i64 x9)] 2 (fun b1 H2=>apK T0 2 H2 x8 (Value.slice (some ⟨b1,0,none⟩) 1 (1+1)) (fun v3 H4=>B7 P N2 N5 x1 x2 x5 x6 v3 x9 x12 x13 x22 x23 x24 H4))
theorem q8 P N2 N5:Q o8 (E k4 (B7 P N2 N5)) k4 (B8 P N2 N5):=fun _ _ _ _ _ _ _ _ _ _ _ _ _=>by kernel_rfl
abbrev k5:Sk:=[(1,.i .u64),(2,.x),(5,.v),(6,.i .u64),(8,.v),(9,J),(10,J),(12,J),(13,J),(22,.v),(23,J),(24,J)]
def o9:=O 32087346
def B9 (P:PT) (N2:Y k1) (N5:Y k3):Y k5:=fun x1 x2 x5 x6 x8 x9 x10 x12 x13 x22 x23 x24 H=>
  pif (decide ((x10:Int)≥0)) (B8 P N2 N5 x1 x2 x5 x6 x8 x9 x12 x13 x22 x23 x24 H) (B6 P N2 N5 x1 x2 x5 x6 x8 x12 x13 x22 x23 x24 H)
theorem q9 P N2 N5:Q o9 (cnd 30 (E k4 (B8 P N2 N5)) (E k3 (B6 P N2 N5))) k5 (B9 P N2 N5):=fun _ _ _ _ _ _ _ _ _ _ _ _ _ _=>by kernel_rfl
def o10:=O 16043672
def B10 (P:PT) (N2:Y k1) (N5:Y k3):Y k3:=fun x1 x2 x5 x6 x8 x12 x13 x22 x23 x24 H=>
  idxK x22 x24 1 (fun b1 o2=>ldI .i64 H b1 o2 (fun v3=>B9 P N2 N5 x1 x2 x5 x6 x8 x24 v3 x12 x13 x22 x23 x24 H))
theorem q10 P N2 N5:Q o10 (E k5 (B9 P N2 N5)) k3 (B10 P N2 N5):=fun _ _ _ _ _ _ _ _ _ _ _ _=>by kernel_rfl
def o11:=O 1002728
def B11 (P:PT) (N2:Y k1) (N5:Y k3):Y k3:=fun x1 x2 x5 x6 x8 x12 x13 x22 x23 x24 H=>
  pif (decide ((x24:Int)<x23)) (B10 P N2 N5 x1 x2 x5 x6 x8 x12 x13 x22 x23 x24 H) (B4 P N2 x1 x2 x5 x6 x8 x12 x13 H)
theorem q11 P N2 N5:Q o11 (cnd 25 (E k3 (B10 P N2 N5)) (E k2 (B4 P N2))) k3 (B11 P N2 N5):=fun _ _ _ _ _ _ _ _ _ _ _ _=>by kernel_rfl
def L5 (P:PT) (N2:Y k1):Y k3:=fun x1 x2 x5 x6 x8 x12 x13 x22 x23 x24 H=>
  ∃ (I:Y k3) (μ:NTy k3 (AHeap→Nat)),I x1 x2 x5 x6 x8 x12 x13 x22 x23 x24 H∧∀ y1 y2 y5 y6 y8 y12 y13 y22 y23 y24 G,I y1 y2 y5 y6 y8 y12 y13 y22 y23 y24 G→B11 P N2 (fun z1 z2 z5 z6 z8 z12 z13 z22 z23 z24 G'=>I z1 z2 z5 z6 z8 z12 z13 z22 z23 z24 G'∧μ z1 z2 z5 z6 z8 z12 z13 z22 z23 z24 G'<μ y1 y2 y5 y6 y8 y12 y13 y22 y23 y24 G) y1 y2 y5 y6 y8 y12 y13 y22 y23 y24 G
theorem l5 P N2:LQ k3 (L5 P N2) (B11 P N2):=fun ⟨_,_,_,_,_,_,_,_,_,_,_⟩ _ ⟨I,μ,h0,hI⟩=>⟨apT _ I,apT _ μ,h0,fun ⟨_,_,_,_,_,_,_,_,_,_,_⟩ _ h=>hI _ _ _ _ _ _ _ _ _ _ _  h⟩
abbrev k6:Sk:=[(1,.i .u64),(2,.x),(5,.v),(6,.i .u64),(7,J),(8,.v),(12,J),(13,J)]
def o12:=O 125340
def B12 (P:PT) (N2:Y k1):Y k6:=fun x1 x2 x5 x6 x7 x8 x12 x13 H=>
  ldI .i64 H x2 0 (fun v1=>ld1 H x2 1 (fun v2=>AC Tryz.prog T0 114 [(Value.agg ⟨[(Value.int .i64 v1),v2]⟩),(Value.int .i64 x7),(Value.int .u64 x1)] H (fun v3 H4=>lenK v3 (fun n6=>L5 P N2 x1 x2 x5 x6 x8 x12 x13 v3 (n6:Int) 0 H4))))
theorem q12 P N2:Q o12 (E k3 (L5 P N2)) k6 (B12 P N2):=fun _ _ _ _ _ _ _ _ _ _=>by kernel_rfl
abbrev k7:Sk:=[(1,.i .u64),(2,.x),(5,.v),(6,.i .u64),(7,J),(12,J),(13,J)]
def o13:=O 31334
def B13 (P:PT) (N2:Y k1):Y k7:=fun x1 x2 x5 x6 x7 x12 x13 H=>
  B12 P N2 x1 x2 x5 x6 x7 (Value.slice none 0 0) x12 x13 H
theorem q13 P N2:Q o13 (E k6 (B12 P N2)) k7 (B13 P N2):=fun _ _ _ _ _ _ _ _ _=>by kernel_rfl
def o14:=O 31332
def B14 (P:PT) (N2:Y k1):Y k7:=fun x1 x2 x5 x6 x7 x12 x13 H=>
  AC Tryz.prog T0 42 [(Value.int .u64 x6),(Value.int .i64 x7)] H (fun v1 H2=>asB v1 (fun v3=>pif v3 (B3 P N2 x1 x2 x5 x6 x12 x13 H2) (B13 P N2 x1 x2 x5 x6 x7 x12 x13 H2)))
theorem q14 P N2:Q o14 (cnd 18 (E k1 (B3 P N2)) (E k7 (B13 P N2))) k7 (B14 P N2):=fun _ _ _ _ _ _ _ _ _=>by kernel_rfl
def o15:=O 7832
def B15 (P:PT) (N2:Y k1):Y k1:=fun x1 x2 x5 x6 x12 x13 H=>
  B14 P N2 x1 x2 x5 x6 x13 x12 x13 H
theorem q15 P N2:Q o15 (E k7 (B14 P N2)) k1 (B15 P N2):=fun _ _ _ _ _ _ _ _=>by kernel_rfl
def o16:=O 488
def B16 (P:PT) (N2:Y k1):Y k1:=fun x1 x2 x5 x6 x12 x13 H=>
  pif (decide ((x13:Int)<x12)) (B15 P N2 x1 x2 x5 x6 x12 x13 H) (B1 P x5 H)
theorem q16 P N2:Q o16 (cnd 14 (E k1 (B15 P N2)) (E k0 (B1 P))) k1 (B16 P N2):=fun _ _ _ _ _ _ _ _=>by kernel_rfl
def L2 (P:PT):Y k1:=fun x1 x2 x5 x6 x12 x13 H=>
  ∃ (I:Y k1) (μ:NTy k1 (AHeap→Nat)),I x1 x2 x5 x6 x12 x13 H∧∀ y1 y2 y5 y6 y12 y13 G,I y1 y2 y5 y6 y12 y13 G→B16 P (fun z1 z2 z5 z6 z12 z13 G'=>I z1 z2 z5 z6 z12 z13 G'∧μ z1 z2 z5 z6 z12 z13 G'<μ y1 y2 y5 y6 y12 y13 G) y1 y2 y5 y6 y12 y13 G
theorem l2 P:LQ k1 (L2 P) (B16 P):=fun ⟨_,_,_,_,_,_,_⟩ _ ⟨I,μ,h0,hI⟩=>⟨apT _ I,apT _ μ,h0,fun ⟨_,_,_,_,_,_,_⟩ _ h=>hI _ _ _ _ _ _ _  h⟩
abbrev k8:Sk:=[(1,.i .u64),(2,.x),(5,.v),(6,.i .u64)]
def o17:=O 60
def B17 (P:PT):Y k8:=fun x1 x2 x5 x6 H=>
  ldI .i64 H x2 0 (fun v1=>L2 P x1 x2 x5 x6 v1 0 H)
theorem q17 P:Q o17 (E k1 (L2 P)) k8 (B17 P):=fun _ _ _ _ _ _=>by kernel_rfl
abbrev k9:Sk:=[(1,.i .u64),(2,.x),(5,.v)]
def o18:=O 14
def B18 (P:PT):Y k9:=fun x1 x2 x5 H=>
  B17 P x1 x2 x5 0 H
theorem q18 P:Q o18 (E k8 (B17 P)) k9 (B18 P):=fun _ _ _ _ _=>by kernel_rfl
abbrev k10:Sk:=[(1,.i .u64),(2,.x)]
def o19:=O 6
def B19 (P:PT):Y k10:=fun x1 x2 H=>
  B18 P x1 x2 (Value.slice none 0 0) H
theorem q19 P:Q o19 (E k9 (B18 P)) k10 (B19 P):=fun _ _ _ _=>by kernel_rfl
abbrev k11:Sk:=[(0,.g [.i,.v]),(1,.i .u64)]
def o20:=O 2
def B20 (P:PT):Y k11:=fun x0a x0b x1 H=>
  newK H [(Value.int .i64 x0a),x0b] 26 (fun b1 H2=>B19 P x1 b1 H2)
theorem q20 P:Q o20 (E k10 (B19 P)) k11 (B20 P):=fun _ _ _ _ _=>by kernel_rfl
def code:Code:=(.seq (R 0 o20) (.seq (R 1 o19) (.seq (R 2 o18) (.seq (.seq (R 3 o17) (.block 0 (.loop (.seq (R 4 o16) (.seq (.cond (.tmp 14) .skip (.exit 0)) (.seq (.block 1 (.seq (R 5 o15) (.seq (.seq (R 6 o14) (.cond (.tmp 18) (.exit 1) .skip)) (.seq (R 7 o13) (.seq (.seq (R 8 o12) (.block 2 (.loop (.seq (R 9 o11) (.seq (.cond (.tmp 25) .skip (.exit 2)) (.seq (.block 3 (.seq (R 10 o10) (.seq (R 11 o9) (.cond (.tmp 30) (.seq (R 12 o8) (R 13 o7)) .skip)))) (R 14 o6))))))) (R 15 o4)))))) (R 16 o3))))))) (.seq (R 17 o1) .ret)))))
theorem body:Tryz.f99.body=some code:=by kernel_rfl
theorem main (P:PT):∀ env H,(En 46 k11 (B20 P)) env H→AW Tryz.prog T0 code env H (M (ret P)):=
  (r_seq (b (q20 P)) (r_seq (b (q19 P)) (r_seq (b (q18 P)) (r_seq (r_seq (b (q17 P)) (r_block (rL (l2 P) (fun N2=>(r_seq (b (q16 P N2)) (r_seq (r_cond rfl r_skip (r_exit (fun _ _ h=>h))) (r_seq (r_block (r_seq (b (q15 P N2)) (r_seq (r_seq (b (q14 P N2)) (r_cond rfl (r_exit (fun _ _ h=>h)) r_skip)) (r_seq (b (q13 P N2)) (r_seq (r_seq (b (q12 P N2)) (r_block (rL (l5 P N2) (fun N5=>(r_seq (b (q11 P N2 N5)) (r_seq (r_cond rfl r_skip (r_exit (fun _ _ h=>h))) (r_seq (r_block (r_seq (b (q10 P N2 N5)) (r_seq (b (q9 P N2 N5)) (r_cond rfl (r_seq (b (q8 P N2 N5)) (b (q7 P N2 N5))) r_skip)))) (b (q6 P N2 N5))))))))) (b (q4 P N2))))))) (b (q3 P N2))))))))) (r_seq (b (q1 P)) r_ret)))))
theorem ac (P:PT) (x0a:Int) (x0b:Value) (x1:Int) (H:AHeap) (h:B20 P x0a x0b x1 H):AC Tryz.prog T0 99 [(Value.agg ⟨[(Value.int .i64 x0a),x0b]⟩),(Value.int .u64 x1)] H P:=
  r_fn T0_ok (c:=code) (n:=46) Tryz.func99 body (by kernel_rfl) (main P) (En_mk (x0a,x0b,x1,()) (by kernel_rfl) ⟨by kernel_rfl,by kernel_rfl,trivial⟩ h)

end F99
namespace F100
abbrev E:=En 48
abbrev Q:=QB Tryz.prog T0 48
def O (k:Nat):=ob Tryz.f100 (pth k)
def ret (P:PT):EP:=retE T0 48 Tryz.f100 P
abbrev k0:Sk:=[(7,.v)]
def o1:=O 510
def B1 (P:PT):Y k0:=fun x7 H=>
  P x7 H
theorem q1 P:Q o1 (ret P) k0 (B1 P):=fun _ _ _=>by kernel_rfl
abbrev k1:Sk:=[(7,.v),(8,J)]
def o3:=O 4066
def B3 (P:PT) (N2:Y k1):Y k1:=fun x7 x8 H=>
  sliceK H 2 x7 (some (Value.int .i64 x8)) none 1 (fun v1=>sliceK H 2 x7 none (some (Value.int .i64 x8)) 1 (fun v2=>cpK T0 2 H v1 v2 (fun n3 H4=>N2 x7 (IntKind.i64.wrap (x8+(n3:Int))) H4)))
theorem q3 (P:PT) (N2:Y k1):QD Tryz.prog T0 48 o3 [(0,false),(1,false),(2,false),(3,false),(4,false),(5,false),(6,false),(7,false),(8,false),(9,false)] (En 48 k1 N2) k1 (B3 P N2):=fun _ _ _ _  => by kernel_rfl
def o4:=O 4064
def B4 (P:PT) (N2:Y k1):Y k1:=fun x7 x8 H=>
  lenK x7 (fun n1=>pif (decide ((x8:Int)<(n1:Int))) (B3 P N2 x7 x8 H) (B1 P x7 H))
theorem q4 P N2:Q o4 (cnd 37 (E k1 (B3 P N2)) (E k0 (B1 P))) k1 (B4 P N2):=fun _ _ _ _=>by kernel_rfl
def L2 (P:PT):Y k1:=fun x7 x8 H=>
  ∃ (I:Y k1) (μ:NTy k1 (AHeap→Nat)),I x7 x8 H∧∀ y7 y8 G,I y7 y8 G→B4 P (fun z7 z8 G'=>I z7 z8 G'∧μ z7 z8 G'<μ y7 y8 G) y7 y8 G
theorem l2 P:LQ k1 (L2 P) (B4 P):=fun ⟨_,_,_⟩ _ ⟨I,μ,h0,hI⟩=>⟨apT _ I,apT _ μ,h0,fun ⟨_,_,_⟩ _ h=>hI _ _ _  h⟩
abbrev k2:Sk:=[(0,.v),(7,.v)]
def o5:=O 126
def B5 (P:PT):Y k2:=fun x0 x7 H=>
  cpK T0 2 H x7 x0 (fun n1 H2=>L2 P x7 (n1:Int) H2)
theorem q5 P:Q o5 (E k1 (L2 P)) k2 (B5 P):=fun _ _ _ _=>by kernel_rfl
abbrev k3:Sk:=[(0,.v),(6,.i .u64)]
def o6:=O 62
def B6 (P:PT):Y k3:=fun x0 x6 H=>
  mkR H 8 2 [(Value.int .i64 0)] (IntKind.i64.wrap x6) (IntKind.i64.wrap x6) (fun v2 H1=>B5 P x0 v2 H1)
theorem q6 P:Q o6 (E k2 (B5 P)) k3 (B6 P):=fun _ _ _ _=>by kernel_rfl
abbrev k4:Sk:=[(0,.v),(5,.i .u64),(6,.i .u64)]
def o7:=O 60
def B7 (P:PT):Y k4:=fun x0 x5 x6 H=>
  pif (decide ((x5:Int)>0)) (False) (pif (decide ((x6:Int)>9223372036854775807)) (False) (B6 P x0 x6 H))
theorem q7 P:Q o7 (cnd 26 (fun _ _=>False) (E k3 (B6 P))) k4 (B7 P):=fun _ _ _ _ _=>by kernel_rfl
abbrev k5:Sk:=[(0,.v),(1,J)]
def o8:=O 14
def B8 (P:PT):Y k5:=fun x0 x1 H=>
  lenK x0 (fun n1=>AC Tryz.prog T0 115 [(Value.int .u64 (IntKind.u64.wrap (n1:Int))),(Value.int .u64 (IntKind.u64.wrap x1))] H (fun v2 H3=>tup2 v2 (fun v4 v5=>asI .u64 v4 (fun v6=>asI .u64 v5 (fun v7=>B7 P x0 v6 v7 H3)))))
theorem q8 P:Q o8 (E k4 (B7 P)) k5 (B8 P):=fun _ _ _ _=>by kernel_rfl
def o9:=O 12
def B9 (P:PT):Y k5:=fun x0 x1 H=>
  pif (decide ((x1:Int)<0)) (False) (B8 P x0 x1 H)
theorem q9 P:Q o9 (cnd 10 (fun _ _=>False) (E k5 (B8 P))) k5 (B9 P):=fun _ _ _ _=>by kernel_rfl
def o10:=O 2
def B10 (P:PT):Y k5:=fun x0 x1 H=>
  B9 P x0 x1 H
theorem q10 P:Q o10 (E k5 (B9 P)) k5 (B10 P):=fun _ _ _ _=>by kernel_rfl
def code:Code:=(.seq (R 0 o10) (.seq (.seq (R 1 o9) (.cond (.tmp 10) (codeAt (bodyOf Tryz.f100) [.r,.l,.r,.l]) .skip)) (.seq (R 3 o8) (.seq (.seq (R 4 o7) (.cond (.tmp 26) (codeAt (bodyOf Tryz.f100) [.r,.r,.r,.l,.r,.l]) .skip)) (.seq (R 6 o6) (.seq (R 7 o5) (.seq (.block 0 (.loop (.seq (.seq (R 8 o4) (.cond (.tmp 37) .skip (.exit 0))) (.block 1 (.region 9 ⟨o3⟩ true))))) (.seq (R 10 o1) .ret))))))))
theorem body:Tryz.f100.body=some code:=by kernel_rfl
theorem main (P:PT):∀ env H,(En 48 k5 (B10 P)) env H→AW Tryz.prog T0 code env H (M (ret P)):=
  (r_seq (b (q10 P)) (r_seq (r_seq (b (q9 P)) (r_cond rfl r_none r_skip)) (r_seq (b (q8 P)) (r_seq (r_seq (b (q7 P)) (r_cond rfl r_none r_skip)) (r_seq (b (q6 P)) (r_seq (b (q5 P)) (r_seq (r_block (rL (l2 P) (fun N2=>(r_seq (r_seq (b (q4 P N2)) (r_cond rfl r_skip (r_exit (fun _ _ h=>h)))) (r_block (rD T0_ok mixed [(0,false),(1,false),(2,false),(3,false),(4,false),(5,false),(6,false),(7,false),(8,false),(9,false)] (by kernel_rfl) (q3 P N2))))))) (r_seq (b (q1 P)) r_ret))))))))
theorem ac (P:PT) (x0:Value) (x1:Int) (H:AHeap) (h:B10 P x0 x1 H):AC Tryz.prog T0 100 [x0,(Value.int .i64 x1)] H P:=
  r_fn T0_ok (c:=code) (n:=48) Tryz.func100 body (by kernel_rfl) (main P) (En_mk (x0,x1,()) (by kernel_rfl) ⟨by kernel_rfl,by kernel_rfl,trivial⟩ h)

end F100
namespace F101
abbrev E:=En 38
abbrev Q:=QB Tryz.prog T0 38
def O (k:Nat):=ob Tryz.f101 (pth k)
def ret (P:PT):EP:=retE T0 38 Tryz.f101 P
abbrev k0:Sk:=[(0,.v),(2,J),(22,.g [.i,.i]),(23,J)]
def o2:=O 231
def B2 (P:PT) (N1:Y k0):Y k0:=fun x0 x2 x22a x22b x23 H=>
  N1 x0 x2 x22a x22b (IntKind.i64.wrap (x23+1)) H
theorem q2 P N1:Q o2 (E k0 N1) k0 (B2 P N1):=fun _ _ _ _ _ _ _=>by kernel_rfl
abbrev k1:Sk:=[(0,.v),(2,J),(7,J),(22,.g [.i,.i]),(23,J)]
def o3:=O 921
def B3 (P:PT) (N1:Y k0):Y k1:=fun x0 x2 x7 x22a x22b x23 H=>
  nilK x0 (fun v1=>asP v1 (fun b2 o3=>ld1 H b2 (o3+4) (fun v4=>idxK v4 x7 1 (fun b5 o6=>ldI .u64 H b5 o6 (fun v7=>((0:Int)≤x2)∧(idxK v4 x7 1 (fun b8 o9=>stK H b8 o9 [(Value.int .u64 (IntKind.u64.wrap (BitVec.ofInt 64 v7|||BitVec.ofInt 64 (IntKind.u64.wrap (1*2^(min (Int.toNat x2) 64)))).toNat))] (fun H10=>B2 P N1 x0 x2 x22a x22b x23 H10))))))))
theorem q3 (P:PT) (N1:Y k0):QD Tryz.prog T0 38 o3 [(0,false),(1,false),(2,false),(3,false),(4,false),(5,false),(6,false),(7,false),(8,false),(9,false),(10,false),(11,false)] (En 38 k0 (B2 P N1)) k1 (B3 P N1):=fun _ _ _ _ _ _ _ _  => by kernel_rfl
def o4:=O 920
def B4 (P:PT) (N1:Y k0):Y k0:=fun x0 x2 x22a x22b x23 H=>
  bndK x23 2 (atK [(Value.int .i64 x22a),(Value.int .i64 x22b)] (Int.toNat x23*1) (fun v1=>asI .i64 v1 (fun v2=>B3 P N1 x0 x2 v2 x22a x22b x23 H)))
theorem q4 P N1:Q o4 (E k1 (B3 P N1)) k0 (B4 P N1):=fun _ _ _ _ _ _ _=>by kernel_rfl
def o5:=O 56
def B5 (P:PT) (N1:Y k0):Y k0:=fun x0 x2 x22a x22b x23 H=>
  pif (decide ((x23:Int)<2)) (B4 P N1 x0 x2 x22a x22b x23 H) (P (Value.tuple ⟨[]⟩) H)
theorem q5 P N1:Q o5 (cnd 24 (E k0 (B4 P N1)) (ret P)) k0 (B5 P N1):=fun _ _ _ _ _ _ _=>by kernel_rfl
def L1 (P:PT):Y k0:=fun x0 x2 x22a x22b x23 H=>
  ∃ (I:Y k0) (μ:NTy k0 (AHeap→Nat)),I x0 x2 x22a x22b x23 H∧∀ y0 y2 y22a y22b y23 G,I y0 y2 y22a y22b y23 G→B5 P (fun z0 z2 z22a z22b z23 G'=>I z0 z2 z22a z22b z23 G'∧μ z0 z2 z22a z22b z23 G'<μ y0 y2 y22a y22b y23 G) y0 y2 y22a y22b y23 G
theorem l1 P:LQ k0 (L1 P) (B5 P):=fun ⟨_,_,_,_,_,_⟩ _ ⟨I,μ,h0,hI⟩=>⟨apT _ I,apT _ μ,h0,fun ⟨_,_,_,_,_,_⟩ _ h=>hI _ _ _ _ _ _  h⟩
abbrev k2:Sk:=[(0,.v),(1,J),(2,J)]
def o6:=O 6
def B6 (P:PT):Y k2:=fun x0 x1 x2 H=>
  nilK x0 (fun v1=>asP v1 (fun b2 o3=>ld1 H b2 (o3+1) (fun v4=>idxK v4 x1 2 (fun b5 o6=>ldI .i64 H b5 o6 (fun v7=>ldI .i64 H b5 (o6+1) (fun v8=>L1 P x0 x2 v7 v8 0 H))))))
theorem q6 P:Q o6 (E k0 (L1 P)) k2 (B6 P):=fun _ _ _ _ _=>by kernel_rfl
def o7:=O 2
def B7 (P:PT):Y k2:=fun x0 x1 x2 H=>
  nilK x0 (fun v1=>asP v1 (fun b2 o3=>ld1 H b2 (o3+3) (fun v4=>idxK v4 x1 1 (fun b5 o6=>stK H b5 o6 [(Value.int .i64 x2)] (fun H7=>B6 P x0 x1 x2 H7)))))
theorem q7 P:Q o7 (E k2 (B6 P)) k2 (B7 P):=fun _ _ _ _ _=>by kernel_rfl
def code:Code:=(.seq (R 0 o7) (.seq (R 1 o6) (.block 0 (.loop (.seq (R 2 o5) (.seq (.cond (.tmp 24) .skip (.exit 0)) (.seq (.block 1 (.seq (R 3 o4) (.region 4 ⟨o3⟩ true))) (R 5 o2))))))))
theorem body:Tryz.f101.body=some code:=by kernel_rfl
theorem main (P:PT):∀ env H,(En 38 k2 (B7 P)) env H→AW Tryz.prog T0 code env H (M (ret P)):=
  (r_seq (b (q7 P)) (r_seq (b (q6 P)) (r_block (rL (l1 P) (fun N1=>(r_seq (b (q5 P N1)) (r_seq (r_cond rfl r_skip (r_exit (fun _ _ h=>h))) (r_seq (r_block (r_seq (b (q4 P N1)) (rD T0_ok mixed [(0,false),(1,false),(2,false),(3,false),(4,false),(5,false),(6,false),(7,false),(8,false),(9,false),(10,false),(11,false)] (by kernel_rfl) (q3 P N1)))) (b (q2 P N1))))))))))
theorem ac (P:PT) (x0:Value) (x1 x2:Int) (H:AHeap) (h:B7 P x0 x1 x2 H):AC Tryz.prog T0 101 [x0,(Value.int .i64 x1),(Value.int .i64 x2)] H P:=
  r_fn T0_ok (c:=code) (n:=38) Tryz.func101 body (by kernel_rfl) (main P) (En_mk (x0,x1,x2,()) (by kernel_rfl) ⟨by kernel_rfl,by kernel_rfl,by kernel_rfl,trivial⟩ h)

end F101
namespace F102
abbrev E:=En 100
abbrev Q:=QB Tryz.prog T0 100
def O (k:Nat):=ob Tryz.f102 (pth k)
def ret (P:PT):EP:=retE T0 100 Tryz.f102 P
abbrev k0:Sk:=[]
def o1:=O 254
def B1 (P:PT):Y k0:=fun H=>
  P (Value.bool false) H
theorem q1 P:Q o1 (ret P) k0 (B1 P):=fun _ _=>by kernel_rfl
abbrev k1:Sk:=[(0,.v),(1,J),(5,J),(6,.x),(65,J)]
def o3:=O 8103
def B3 (P:PT) (N2:Y k1):Y k1:=fun x0 x1 x5 x6 x65 H=>
  N2 x0 x1 x5 x6 (IntKind.i64.wrap (x65+1)) H
theorem q3 P N2:Q o3 (E k1 N2) k1 (B3 P N2):=fun _ _ _ _ _ _ _=>by kernel_rfl
def o4:=O 4148476
def B4 (P:PT) (N2:Y k1):Y k0:=fun H=>
  P (Value.bool true) H
theorem q4 P N2:Q o4 (ret P) k0 (B4 P N2):=fun _ _=>by kernel_rfl
abbrev k2:Sk:=[(0,.v),(1,J),(5,J),(6,.x),(8,.b),(65,J)]
def o5:=O 1037118
def B5 (P:PT) (N2:Y k1):Y k2:=fun x0 x1 x5 x6 x8 x65 H=>
  pif x8 (B4 P N2 H) (B3 P N2 x0 x1 x5 x6 x65 H)
theorem q5 P N2:Q o5 (cnd 98 (E k0 (B4 P N2)) (E k1 (B3 P N2))) k2 (B5 P N2):=fun _ _ _ _ _ _ _ _=>by kernel_rfl
def o6:=O 518558
def B6 (P:PT) (N2:Y k1):Y k2:=fun x0 x1 x5 x6 x8 x65 H=>
  AC Tryz.prog T0 116 [x0,(Value.int .i64 x5)] H (fun v1 H2=>asTup v1 (fun l3=>B5 P N2 x0 x1 x5 x6 x8 x65 H2))
theorem q6 P N2:Q o6 (E k2 (B5 P N2)) k2 (B6 P N2):=fun _ _ _ _ _ _ _ _=>by kernel_rfl
def o7:=O 259278
def B7 (P:PT) (N2:Y k1):Y k1:=fun x0 x1 x5 x6 x65 H=>
  AC Tryz.prog T0 102 [x0,(Value.int .i64 (IntKind.i64.wrap (x1+1)))] H (fun v1 H2=>asB v1 (fun v3=>B6 P N2 x0 x1 x5 x6 v3 x65 H2))
theorem q7 P N2:Q o7 (E k2 (B6 P N2)) k1 (B7 P N2):=fun _ _ _ _ _ _ _=>by kernel_rfl
abbrev k3:Sk:=[(0,.v),(1,J),(5,J),(6,.x),(7,J),(65,J)]
def o8:=O 129638
def B8 (P:PT) (N2:Y k1):Y k3:=fun x0 x1 x5 x6 x7 x65 H=>
  AC Tryz.prog T0 101 [x0,(Value.int .i64 x5),(Value.int .i64 x7)] H (fun v1 H2=>asTup v1 (fun l3=>B7 P N2 x0 x1 x5 x6 x65 H2))
theorem q8 P N2:Q o8 (E k1 (B7 P N2)) k3 (B8 P N2):=fun _ _ _ _ _ _ _ _=>by kernel_rfl
def o9:=O 129636
def B9 (P:PT) (N2:Y k1):Y k3:=fun x0 x1 x5 x6 x7 x65 H=>
  nilK x0 (fun v1=>asP v1 (fun b2 o3=>ld1 H b2 (o3+4) (fun v4=>ldI .i64 H x6 0 (fun v5=>idxK v4 v5 1 (fun b6 o7=>ldI .u64 H b6 o7 (fun v8=>nilK x0 (fun v9=>asP v9 (fun b10 o11=>ld1 H b10 (o11+4) (fun v12=>ldI .i64 H x6 1 (fun v13=>idxK v12 v13 1 (fun b14 o15=>ldI .u64 H b14 o15 (fun v16=>AC Tryz.prog T0 42 [(Value.int .u64 (IntKind.u64.wrap (BitVec.ofInt 64 v8|||BitVec.ofInt 64 v16).toNat)),(Value.int .i64 x7)] H (fun v17 H18=>asB v17 (fun v19=>pif v19 (B3 P N2 x0 x1 x5 x6 x65 H18) (B8 P N2 x0 x1 x5 x6 x7 x65 H18)))))))))))))))
theorem q9 (P:PT) (N2:Y k1):QD Tryz.prog T0 100 o9 [(0,false),(1,false),(2,false),(3,false),(4,false),(5,false),(6,false),(7,false),(8,false),(9,false),(10,false),(11,false),(12,false),(13,false),(14,false),(15,false),(16,false),(17,false),(18,false)] (cnd 86 (En 100 k1 (B3 P N2)) (En 100 k3 (B8 P N2))) k3 (B9 P N2):=fun _ _ _ _ _ _ _ _  => by kernel_rfl
def o10:=O 32408
def B10 (P:PT) (N2:Y k1):Y k1:=fun x0 x1 x5 x6 x65 H=>
  B9 P N2 x0 x1 x5 x6 x65 x65 H
theorem q10 P N2:Q o10 (E k3 (B9 P N2)) k1 (B10 P N2):=fun _ _ _ _ _ _ _=>by kernel_rfl
def o11:=O 2024
def B11 (P:PT) (N2:Y k1):Y k1:=fun x0 x1 x5 x6 x65 H=>
  pif (decide ((x65:Int)<3)) (B10 P N2 x0 x1 x5 x6 x65 H) (B1 P H)
theorem q11 P N2:Q o11 (cnd 66 (E k1 (B10 P N2)) (E k0 (B1 P))) k1 (B11 P N2):=fun _ _ _ _ _ _ _=>by kernel_rfl
def L2 (P:PT):Y k1:=fun x0 x1 x5 x6 x65 H=>
  ∃ (I:Y k1) (μ:NTy k1 (AHeap→Nat)),I x0 x1 x5 x6 x65 H∧∀ y0 y1 y5 y6 y65 G,I y0 y1 y5 y6 y65 G→B11 P (fun z0 z1 z5 z6 z65 G'=>I z0 z1 z5 z6 z65 G'∧μ z0 z1 z5 z6 z65 G'<μ y0 y1 y5 y6 y65 G) y0 y1 y5 y6 y65 G
theorem l2 P:LQ k1 (L2 P) (B11 P):=fun ⟨_,_,_,_,_,_⟩ _ ⟨I,μ,h0,hI⟩=>⟨apT _ I,apT _ μ,h0,fun ⟨_,_,_,_,_,_⟩ _ h=>hI _ _ _ _ _ _  h⟩
abbrev k4:Sk:=[(0,.v),(1,J),(5,J),(6,.x)]
def o12:=O 252
def B12 (P:PT):Y k4:=fun x0 x1 x5 x6 H=>
  L2 P x0 x1 x5 x6 0 H
theorem q12 P:Q o12 (E k1 (L2 P)) k4 (B12 P):=fun _ _ _ _ _ _=>by kernel_rfl
abbrev k5:Sk:=[(0,.v),(1,J),(5,J)]
def o13:=O 62
def B13 (P:PT):Y k5:=fun x0 x1 x5 H=>
  nilK x0 (fun v1=>asP v1 (fun b2 o3=>ld1 H b2 (o3+1) (fun v4=>idxK v4 x5 2 (fun b5 o6=>ldI .i64 H b5 o6 (fun v7=>ldI .i64 H b5 (o6+1) (fun v8=>newK H [(Value.int .i64 0),(Value.int .i64 0)] 84 (fun b9 H10=>stK H10 b9 0 [(Value.int .i64 v7),(Value.int .i64 v8)] (fun H11=>B12 P x0 x1 x5 b9 H11))))))))
theorem q13 P:Q o13 (E k4 (B12 P)) k5 (B13 P):=fun _ _ _ _ _=>by kernel_rfl
abbrev k6:Sk:=[(0,.v),(1,J)]
def o14:=O 30
def B14 (P:PT):Y k6:=fun x0 x1 H=>
  nilK x0 (fun v1=>asP v1 (fun b2 o3=>ld1 H b2 (o3+2) (fun v4=>idxK v4 x1 1 (fun b5 o6=>ldI .i64 H b5 o6 (fun v7=>B13 P x0 x1 v7 H)))))
theorem q14 P:Q o14 (E k5 (B13 P)) k6 (B14 P):=fun _ _ _ _=>by kernel_rfl
abbrev k7:Sk:=[(0,.v)]
def o15:=O 116
def B15 (P:PT):Y k7:=fun x0 H=>
  nilK x0 (fun v1=>asP v1 (fun b2 o3=>ld1 H b2 (o3+5) (fun v4=>nilK x0 (fun v5=>asP v5 (fun b6 o7=>ld1 H b6 (o7+3) (fun v8=>callV Tryz.prog T0 v4 [v8] H (fun v9 H10=>asB v9 (fun v11=>P (Value.bool v11) H10))))))))
theorem q15 (P:PT):QD Tryz.prog T0 100 o15 [(0,false),(1,false),(2,false),(3,false),(4,false),(5,false),(6,false),(7,false),(8,false),(9,false)] (ret P) k7 (B15 P):=fun _ _ _  => by kernel_rfl
def o16:=O 28
def B16 (P:PT):Y k6:=fun x0 x1 H=>
  nilK x0 (fun v1=>asP v1 (fun b2 o3=>ld1 H b2 (o3+2) (fun v4=>lenK v4 (fun n5=>pif ((x1:Int)==(n5:Int)) (B15 P x0 H) (B14 P x0 x1 H)))))
theorem q16 P:Q o16 (cnd 40 (E k7 (B15 P)) (E k6 (B14 P))) k6 (B16 P):=fun _ _ _ _=>by kernel_rfl
def o18:=O 98
def B18 (P:PT) (N17:Y k6):Y k6:=fun x0 x1 H=>
  N17 x0 (IntKind.i64.wrap (x1+1)) H
theorem q18 P N17:Q o18 (E k6 N17) k6 (B18 P N17):=fun _ _ _ _=>by kernel_rfl
def o19:=O 96
def B19 (P:PT) (N17:Y k6):Y k6:=fun x0 x1 H=>
  nilK x0 (fun v1=>asP v1 (fun b2 o3=>ld1 H b2 (o3+2) (fun v4=>lenK v4 (fun n5=>pif (decide ((x1:Int)<(n5:Int))) (nilK x0 (fun v6=>asP v6 (fun b7 o8=>ld1 H b7 (o8+3) (fun v9=>nilK x0 (fun v10=>asP v10 (fun b11 o12=>ld1 H b11 (o12+2) (fun v13=>idxK v13 x1 1 (fun b14 o15=>ldI .i64 H b14 o15 (fun v16=>idxK v9 v16 1 (fun b17 o18=>ldI .i64 H b17 o18 (fun v19=>pif ((v19:Int) != (-1)) (B18 P N17 x0 x1 H) (B16 P x0 x1 H)))))))))))) (B16 P x0 x1 H)))))
theorem q19 (P:PT) (N17:Y k6):QD Tryz.prog T0 100 o19 [(0,false),(1,false),(2,false),(3,false),(4,false),(5,false),(6,false),(7,false),(8,false),(9,false),(10,false),(11,false),(12,false),(13,false),(14,false),(15,false),(16,false),(17,false),(18,false),(19,false),(20,false),(21,false),(22,false)] (cnd 31 (En 100 k6 (B18 P N17)) (En 100 k6 (B16 P))) k6 (B19 P N17):=fun _ _ _ _  => by kernel_rfl
def L17 (P:PT):Y k6:=fun x0 x1 H=>
  ∃ (I:Y k6) (μ:NTy k6 (AHeap→Nat)),I x0 x1 H∧∀ y0 y1 G,I y0 y1 G→B19 P (fun z0 z1 G'=>I z0 z1 G'∧μ z0 z1 G'<μ y0 y1 G) y0 y1 G
theorem l17 P:LQ k6 (L17 P) (B19 P):=fun ⟨_,_,_⟩ _ ⟨I,μ,h0,hI⟩=>⟨apT _ I,apT _ μ,h0,fun ⟨_,_,_⟩ _ h=>hI _ _ _  h⟩
def o20:=O 2
def B20 (P:PT):Y k6:=fun x0 x1 H=>
  L17 P x0 x1 H
theorem q20 P:Q o20 (E k6 (L17 P)) k6 (B20 P):=fun _ _ _ _=>by kernel_rfl
def code:Code:=(.seq (R 0 o20) (.seq (.block 0 (.loop (.seq (.seq (.region 1 ⟨o19⟩ true) (.cond (.tmp 31) .skip (.exit 0))) (.block 1 (R 2 o18))))) (.seq (.seq (R 3 o16) (.cond (.tmp 40) (.seq (.region 4 ⟨o15⟩ true) .ret) .skip)) (.seq (R 5 o14) (.seq (R 6 o13) (.seq (.seq (R 7 o12) (.block 2 (.loop (.seq (R 8 o11) (.seq (.cond (.tmp 66) .skip (.exit 2)) (.seq (.block 3 (.seq (R 9 o10) (.seq (.seq (.region 10 ⟨o9⟩ true) (.cond (.tmp 86) (.exit 3) .skip)) (.seq (R 11 o8) (.seq (R 12 o7) (.seq (R 13 o6) (.seq (R 14 o5) (.cond (.tmp 98) (.seq (R 15 o4) .ret) .skip)))))))) (R 16 o3))))))) (.seq (R 17 o1) .ret)))))))
theorem body:Tryz.f102.body=some code:=by kernel_rfl
theorem main (P:PT):∀ env H,(En 100 k6 (B20 P)) env H→AW Tryz.prog T0 code env H (M (ret P)):=
  (r_seq (b (q20 P)) (r_seq (r_block (rL (l17 P) (fun N17=>(r_seq (r_seq (rD T0_ok mixed [(0,false),(1,false),(2,false),(3,false),(4,false),(5,false),(6,false),(7,false),(8,false),(9,false),(10,false),(11,false),(12,false),(13,false),(14,false),(15,false),(16,false),(17,false),(18,false),(19,false),(20,false),(21,false),(22,false)] (by kernel_rfl) (q19 P N17)) (r_cond rfl r_skip (r_exit (fun _ _ h=>h)))) (r_block (b (q18 P N17))))))) (r_seq (r_seq (b (q16 P)) (r_cond rfl (r_seq (rD T0_ok mixed [(0,false),(1,false),(2,false),(3,false),(4,false),(5,false),(6,false),(7,false),(8,false),(9,false)] (by kernel_rfl) (q15 P)) r_ret) r_skip)) (r_seq (b (q14 P)) (r_seq (b (q13 P)) (r_seq (r_seq (b (q12 P)) (r_block (rL (l2 P) (fun N2=>(r_seq (b (q11 P N2)) (r_seq (r_cond rfl r_skip (r_exit (fun _ _ h=>h))) (r_seq (r_block (r_seq (b (q10 P N2)) (r_seq (r_seq (rD T0_ok mixed [(0,false),(1,false),(2,false),(3,false),(4,false),(5,false),(6,false),(7,false),(8,false),(9,false),(10,false),(11,false),(12,false),(13,false),(14,false),(15,false),(16,false),(17,false),(18,false)] (by kernel_rfl) (q9 P N2)) (r_cond rfl (r_exit (fun _ _ h=>h)) r_skip)) (r_seq (b (q8 P N2)) (r_seq (b (q7 P N2)) (r_seq (b (q6 P N2)) (r_seq (b (q5 P N2)) (r_cond rfl (r_seq (b (q4 P N2)) r_ret) r_skip)))))))) (b (q3 P N2))))))))) (r_seq (b (q1 P)) r_ret)))))))
theorem ac (P:PT) (x0:Value) (x1:Int) (H:AHeap) (h:B20 P x0 x1 H):AC Tryz.prog T0 102 [x0,(Value.int .i64 x1)] H P:=
  r_fn T0_ok (c:=code) (n:=100) Tryz.func102 body (by kernel_rfl) (main P) (En_mk (x0,x1,()) (by kernel_rfl) ⟨by kernel_rfl,by kernel_rfl,trivial⟩ h)

end F102
namespace F103
abbrev E:=En 9
abbrev Q:=QB Tryz.prog T0 9
def O (k:Nat):=ob Tryz.f103 (pth k)
def ret (P:PT):EP:=retE T0 9 Tryz.f103 P
abbrev k0:Sk:=[(0,.v),(1,.v)]
def o1:=O 6
def B1 (P:PT):Y k0:=fun x0 x1 H=>
  AC Tryz.prog T0 117 [x0,x1] H (fun v1 H2=>asI .i64 v1 (fun v3=>P (Value.bool (decide ((v3:Int)≥0))) H2))
theorem q1 P:Q o1 (ret P) k0 (B1 P):=fun _ _ _ _=>by kernel_rfl
def o2:=O 2
def B2 (P:PT):Y k0:=fun x0 x1 H=>
  B1 P x0 x1 H
theorem q2 P:Q o2 (E k0 (B1 P)) k0 (B2 P):=fun _ _ _ _=>by kernel_rfl
def code:Code:=(.seq (R 0 o2) (.seq (R 1 o1) .ret))
theorem body:Tryz.f103.body=some code:=by kernel_rfl
theorem main (P:PT):∀ env H,(En 9 k0 (B2 P)) env H→AW Tryz.prog T0 code env H (M (ret P)):=
  (r_seq (b (q2 P)) (r_seq (b (q1 P)) r_ret))
theorem ac (P:PT) (x0 x1:Value) (H:AHeap) (h:B2 P x0 x1 H):AC Tryz.prog T0 103 [x0,x1] H P:=
  r_fn T0_ok (c:=code) (n:=9) Tryz.func103 body (by kernel_rfl) (main P) (En_mk (x0,x1,()) (by kernel_rfl) ⟨by kernel_rfl,by kernel_rfl,trivial⟩ h)

end F103
namespace F104
abbrev E:=En 8
abbrev Q:=QB Tryz.prog T0 8
def O (k:Nat):=ob Tryz.f104 (pth k)
def ret (P:PT):EP:=retE T0 8 Tryz.f104 P
abbrev k0:Sk:=[(0,J),(1,.v)]
def o1:=O 6
def B1 (P:PT):Y k0:=fun x0 x1 H=>
  asP x1 (fun b1 o2=>ld1 H b1 o2 (fun v3=>callV Tryz.prog T0 v3 [(Value.int .i64 x0)] H (fun v4 H5=>asB v4 (fun v6=>P (Value.bool (!v6)) H5))))
theorem q1 P:Q o1 (ret P) k0 (B1 P):=fun _ _ _ _=>by kernel_rfl
def o2:=O 2
def B2 (P:PT):Y k0:=fun x0 x1 H=>
  B1 P x0 x1 H
theorem q2 P:Q o2 (E k0 (B1 P)) k0 (B2 P):=fun _ _ _ _=>by kernel_rfl
def code:Code:=(.seq (R 0 o2) (.seq (R 1 o1) .ret))
theorem body:Tryz.f104.body=some code:=by kernel_rfl
theorem main (P:PT):∀ env H,(En 8 k0 (B2 P)) env H→AW Tryz.prog T0 code env H (M (ret P)):=
  (r_seq (b (q2 P)) (r_seq (b (q1 P)) r_ret))
theorem ac (P:PT) (x0:Int) (x1:Value) (H:AHeap) (h:B2 P x0 x1 H):AC Tryz.prog T0 104 [(Value.int .i64 x0),x1] H P:=
  r_fn T0_ok (c:=code) (n:=8) Tryz.func104 body (by kernel_rfl) (main P) (En_mk (x0,x1,()) (by kernel_rfl) ⟨by kernel_rfl,by kernel_rfl,trivial⟩ h)

end F104
namespace F105
abbrev E:=En 9
abbrev Q:=QB Tryz.prog T0 9
def O (k:Nat):=ob Tryz.f105 (pth k)
def ret (P:PT):EP:=retE T0 9 Tryz.f105 P
abbrev k0:Sk:=[(0,J),(1,.v),(4,.x)]
def o1:=O 6
def B1 (P:PT):Y k0:=fun x0 x1 x4 H=>
  AC Tryz.prog T0 118 [x1] H (fun v1 H2=>pif (Value.oneCell' v1) (stK H2 x4 0 [(Value.int .i64 x0),v1] (fun H4=>ldI .i64 H4 x4 0 (fun v5=>ld1 H4 x4 1 (fun v6=>P (Value.agg ⟨[(Value.int .i64 v5),v6]⟩) H4)))) False)
theorem q1 P:Q o1 (ret P) k0 (B1 P):=fun _ _ _ _ _=>by kernel_rfl
abbrev k1:Sk:=[(0,J),(1,.v)]
def o2:=O 2
def B2 (P:PT):Y k1:=fun x0 x1 H=>
  newK H [(Value.int .i64 0),(Value.slice none 0 0)] 26 (fun b1 H2=>B1 P x0 x1 b1 H2)
theorem q2 P:Q o2 (E k0 (B1 P)) k1 (B2 P):=fun _ _ _ _=>by kernel_rfl
def code:Code:=(.seq (R 0 o2) (.seq (R 1 o1) .ret))
theorem body:Tryz.f105.body=some code:=by kernel_rfl
theorem main (P:PT):∀ env H,(En 9 k1 (B2 P)) env H→AW Tryz.prog T0 code env H (M (ret P)):=
  (r_seq (b (q2 P)) (r_seq (b (q1 P)) r_ret))
theorem ac (P:PT) (x0:Int) (x1:Value) (H:AHeap) (h:B2 P x0 x1 H):AC Tryz.prog T0 105 [(Value.int .i64 x0),x1] H P:=
  r_fn T0_ok (c:=code) (n:=9) Tryz.func105 body (by kernel_rfl) (main P) (En_mk (x0,x1,()) (by kernel_rfl) ⟨by kernel_rfl,by kernel_rfl,trivial⟩ h)

end F105
namespace F106
abbrev E:=En 29
abbrev Q:=QB Tryz.prog T0 29
def O (k:Nat):=ob Tryz.f106 (pth k)
def ret (P:PT):EP:=retE T0 29 Tryz.f106 P
abbrev k0:Sk:=[(0,.v)]
def o1:=O 14
def B1 (P:PT):Y k0:=fun x0 H=>
  P x0 H
theorem q1 P:Q o1 (ret P) k0 (B1 P):=fun _ _ _=>by kernel_rfl
abbrev k1:Sk:=[(0,.v),(1,.v),(5,J)]
def o3:=O 211
def B3 (P:PT) (N2:Y k1):Y k1:=fun x0 x1 x5 H=>
  N2 x0 x1 (IntKind.i64.wrap (x5+1)) H
theorem q3 P N2:Q o3 (E k1 N2) k1 (B3 P N2):=fun _ _ _ _ _=>by kernel_rfl
def o4:=O 420
def B4 (P:PT) (N2:Y k1):Y k1:=fun x0 x1 x5 H=>
  idxK x1 x5 1 (fun b1 o2=>ldI .i64 H b1 o2 (fun v3=>lenK x1 (fun n4=>nzK (n4:Int) (idxK x1 (Int.tmod (IntKind.i64.wrap (x5+1)) (n4:Int)) 1 (fun b5 o6=>ldI .i64 H b5 o6 (fun v7=>newK H [(Value.int .i64 v3),(Value.int .i64 v7)] 84 (fun b8 H9=>apK T0 84 H9 x0 (Value.slice (some ⟨b8,0,none⟩) 1 (1+1)) (fun v10 H11=>B3 P N2 v10 x1 x5 H11))))))))
theorem q4 (P:PT) (N2:Y k1):QD Tryz.prog T0 29 o4 [(0,false),(1,false),(2,false),(3,false),(4,false),(5,false),(6,false),(7,false),(8,false),(9,false),(10,false),(11,false),(12,false),(13,false),(14,false),(15,false),(16,false)] (En 29 k1 (B3 P N2)) k1 (B4 P N2):=fun _ _ _ _ _  => by kernel_rfl
def o5:=O 208
def B5 (P:PT) (N2:Y k1):Y k1:=fun x0 x1 x5 H=>
  lenK x1 (fun n1=>pif (decide ((x5:Int)<(n1:Int))) (B4 P N2 x0 x1 x5 H) (B1 P x0 H))
theorem q5 P N2:Q o5 (cnd 9 (E k1 (B4 P N2)) (E k0 (B1 P))) k1 (B5 P N2):=fun _ _ _ _ _=>by kernel_rfl
def L2 (P:PT):Y k1:=fun x0 x1 x5 H=>
  ∃ (I:Y k1) (μ:NTy k1 (AHeap→Nat)),I x0 x1 x5 H∧∀ y0 y1 y5 G,I y0 y1 y5 G→B5 P (fun z0 z1 z5 G'=>I z0 z1 z5 G'∧μ z0 z1 z5 G'<μ y0 y1 y5 G) y0 y1 y5 G
theorem l2 P:LQ k1 (L2 P) (B5 P):=fun ⟨_,_,_,_⟩ _ ⟨I,μ,h0,hI⟩=>⟨apT _ I,apT _ μ,h0,fun ⟨_,_,_,_⟩ _ h=>hI _ _ _ _  h⟩
abbrev k2:Sk:=[(0,.v),(1,.v)]
def o6:=O 12
def B6 (P:PT):Y k2:=fun x0 x1 H=>
  L2 P x0 x1 0 H
theorem q6 P:Q o6 (E k1 (L2 P)) k2 (B6 P):=fun _ _ _ _=>by kernel_rfl
def o7:=O 2
def B7 (P:PT):Y k2:=fun x0 x1 H=>
  B6 P x0 x1 H
theorem q7 P:Q o7 (E k2 (B6 P)) k2 (B7 P):=fun _ _ _ _=>by kernel_rfl
def code:Code:=(.seq (R 0 o7) (.seq (.seq (R 1 o6) (.block 0 (.loop (.seq (.seq (R 2 o5) (.cond (.tmp 9) .skip (.exit 0))) (.seq (.block 1 (.region 4 ⟨o4⟩ true)) (R 3 o3)))))) (.seq (R 5 o1) .ret)))
theorem body:Tryz.f106.body=some code:=by kernel_rfl
theorem main (P:PT):∀ env H,(En 29 k2 (B7 P)) env H→AW Tryz.prog T0 code env H (M (ret P)):=
  (r_seq (b (q7 P)) (r_seq (r_seq (b (q6 P)) (r_block (rL (l2 P) (fun N2=>(r_seq (r_seq (b (q5 P N2)) (r_cond rfl r_skip (r_exit (fun _ _ h=>h)))) (r_seq (r_block (rD T0_ok mixed [(0,false),(1,false),(2,false),(3,false),(4,false),(5,false),(6,false),(7,false),(8,false),(9,false),(10,false),(11,false),(12,false),(13,false),(14,false),(15,false),(16,false)] (by kernel_rfl) (q4 P N2))) (b (q3 P N2)))))))) (r_seq (b (q1 P)) r_ret)))
theorem ac (P:PT) (x0 x1:Value) (H:AHeap) (h:B7 P x0 x1 H):AC Tryz.prog T0 106 [x0,x1] H P:=
  r_fn T0_ok (c:=code) (n:=29) Tryz.func106 body (by kernel_rfl) (main P) (En_mk (x0,x1,()) (by kernel_rfl) ⟨by kernel_rfl,by kernel_rfl,trivial⟩ h)

end F106
namespace F107
abbrev E:=En 10
abbrev Q:=QB Tryz.prog T0 10
def O (k:Nat):=ob Tryz.f107 (pth k)
def ret (P:PT):EP:=retE T0 10 Tryz.f107 P
abbrev k0:Sk:=[(0,J)]
def o1:=O 6
def B1 (P:PT):Y k0:=fun x0 H=>
  AC Tryz.prog T0 94 [(Value.int .i64 x0),(Value.int .i64 2),(Value.int .i64 20)] H (fun v1 H2=>asB v1 (fun v3=>pif v3 (P (Value.bool ((Int.tmod x0 2:Int)==0)) H2) (P (Value.bool false) H2)))
theorem q1 P:Q o1 (ret P) k0 (B1 P):=fun _ _ _=>by kernel_rfl
def o2:=O 2
def B2 (P:PT):Y k0:=fun x0 H=>
  B1 P x0 H
theorem q2 P:Q o2 (E k0 (B1 P)) k0 (B2 P):=fun _ _ _=>by kernel_rfl
def code:Code:=(.seq (R 0 o2) (.seq (R 1 o1) .ret))
theorem body:Tryz.f107.body=some code:=by kernel_rfl
theorem main (P:PT):∀ env H,(En 10 k0 (B2 P)) env H→AW Tryz.prog T0 code env H (M (ret P)):=
  (r_seq (b (q2 P)) (r_seq (b (q1 P)) r_ret))
theorem ac (P:PT) (x0:Int) (H:AHeap) (h:B2 P x0 H):AC Tryz.prog T0 107 [(Value.int .i64 x0)] H P:=
  r_fn T0_ok (c:=code) (n:=10) Tryz.func107 body (by kernel_rfl) (main P) (En_mk (x0,()) (by kernel_rfl) ⟨by kernel_rfl,trivial⟩ h)

end F107
namespace F108
abbrev E:=En 23
abbrev Q:=QB Tryz.prog T0 23
def O (k:Nat):=ob Tryz.f108 (pth k)
def ret (P:PT):EP:=retE T0 23 Tryz.f108 P
abbrev k0:Sk:=[(1,.v),(2,.x)]
def o1:=O 6
def B1 (P:PT):Y k0:=fun x1 x2 H=>
  ldI .i64 H x2 0 (fun v1=>asP x1 (fun b2 o3=>ldI .i64 H b2 o3 (fun v4=>AC Tryz.prog T0 94 [(Value.int .i64 v1),(Value.int .i64 0),(Value.int .i64 (IntKind.i64.wrap (v4-1)))] H (fun v5 H6=>asB v5 (fun v7=>pif v7 (ldI .i64 H6 x2 1 (fun v8=>asP x1 (fun b9 o10=>ldI .i64 H6 b9 o10 (fun v11=>AC Tryz.prog T0 94 [(Value.int .i64 v8),(Value.int .i64 0),(Value.int .i64 (IntKind.i64.wrap (v11-1)))] H6 (fun v12 H13=>asB v12 (fun v14=>pif v14 (ldI .i64 H13 x2 0 (fun v15=>ldI .i64 H13 x2 1 (fun v16=>P (Value.bool ((v15:Int) != v16)) H13))) (P (Value.bool false) H13))))))) (P (Value.bool false) H6))))))
theorem q1 P:Q o1 (ret P) k0 (B1 P):=fun _ _ _ _=>by kernel_rfl
abbrev k1:Sk:=[(0,.g [.i,.i]),(1,.v)]
def o2:=O 2
def B2 (P:PT):Y k1:=fun x0a x0b x1 H=>
  newK H [(Value.int .i64 x0a),(Value.int .i64 x0b)] 84 (fun b1 H2=>B1 P x1 b1 H2)
theorem q2 P:Q o2 (E k0 (B1 P)) k1 (B2 P):=fun _ _ _ _ _=>by kernel_rfl
def code:Code:=(.seq (R 0 o2) (.seq (R 1 o1) .ret))
theorem body:Tryz.f108.body=some code:=by kernel_rfl
theorem main (P:PT):∀ env H,(En 23 k1 (B2 P)) env H→AW Tryz.prog T0 code env H (M (ret P)):=
  (r_seq (b (q2 P)) (r_seq (b (q1 P)) r_ret))
theorem ac (P:PT) (x0a x0b:Int) (x1:Value) (H:AHeap) (h:B2 P x0a x0b x1 H):AC Tryz.prog T0 108 [(Value.agg ⟨[(Value.int .i64 x0a),(Value.int .i64 x0b)]⟩),x1] H P:=
  r_fn T0_ok (c:=code) (n:=23) Tryz.func108 body (by kernel_rfl) (main P) (En_mk (x0a,x0b,x1,()) (by kernel_rfl) ⟨by kernel_rfl,by kernel_rfl,trivial⟩ h)

end F108
namespace F109
abbrev E:=En 9
abbrev Q:=QB Tryz.prog T0 9
def O (k:Nat):=ob Tryz.f109 (pth k)
def ret (P:PT):EP:=retE T0 9 Tryz.f109 P
abbrev k0:Sk:=[(0,.v),(1,.v)]
def o1:=O 6
def B1 (P:PT):Y k0:=fun x0 x1 H=>
  AC Tryz.prog T0 119 [x0,x1] H (fun v1 H2=>asI .i64 v1 (fun v3=>P (Value.bool (decide ((v3:Int)≥0))) H2))
theorem q1 P:Q o1 (ret P) k0 (B1 P):=fun _ _ _ _=>by kernel_rfl
def o2:=O 2
def B2 (P:PT):Y k0:=fun x0 x1 H=>
  B1 P x0 x1 H
theorem q2 P:Q o2 (E k0 (B1 P)) k0 (B2 P):=fun _ _ _ _=>by kernel_rfl
def code:Code:=(.seq (R 0 o2) (.seq (R 1 o1) .ret))
theorem body:Tryz.f109.body=some code:=by kernel_rfl
theorem main (P:PT):∀ env H,(En 9 k0 (B2 P)) env H→AW Tryz.prog T0 code env H (M (ret P)):=
  (r_seq (b (q2 P)) (r_seq (b (q1 P)) r_ret))
theorem ac (P:PT) (x0 x1:Value) (H:AHeap) (h:B2 P x0 x1 H):AC Tryz.prog T0 109 [x0,x1] H P:=
  r_fn T0_ok (c:=code) (n:=9) Tryz.func109 body (by kernel_rfl) (main P) (En_mk (x0,x1,()) (by kernel_rfl) ⟨by kernel_rfl,by kernel_rfl,trivial⟩ h)

end F109
namespace F110
abbrev E:=En 8
abbrev Q:=QB Tryz.prog T0 8
def O (k:Nat):=ob Tryz.f110 (pth k)
def ret (P:PT):EP:=retE T0 8 Tryz.f110 P
abbrev k0:Sk:=[(1,.v),(2,.x)]
def o1:=O 6
def B1 (P:PT):Y k0:=fun x1 x2 H=>
  asP x1 (fun b1 o2=>ld1 H b1 o2 (fun v3=>ldI .i64 H x2 0 (fun v4=>ldI .i64 H x2 1 (fun v5=>callV Tryz.prog T0 v3 [(Value.agg ⟨[(Value.int .i64 v4),(Value.int .i64 v5)]⟩)] H (fun v6 H7=>asB v6 (fun v8=>P (Value.bool (!v8)) H7))))))
theorem q1 P:Q o1 (ret P) k0 (B1 P):=fun _ _ _ _=>by kernel_rfl
abbrev k1:Sk:=[(0,.g [.i,.i]),(1,.v)]
def o2:=O 2
def B2 (P:PT):Y k1:=fun x0a x0b x1 H=>
  newK H [(Value.int .i64 x0a),(Value.int .i64 x0b)] 84 (fun b1 H2=>B1 P x1 b1 H2)
theorem q2 P:Q o2 (E k0 (B1 P)) k1 (B2 P):=fun _ _ _ _ _=>by kernel_rfl
def code:Code:=(.seq (R 0 o2) (.seq (R 1 o1) .ret))
theorem body:Tryz.f110.body=some code:=by kernel_rfl
theorem main (P:PT):∀ env H,(En 8 k1 (B2 P)) env H→AW Tryz.prog T0 code env H (M (ret P)):=
  (r_seq (b (q2 P)) (r_seq (b (q1 P)) r_ret))
theorem ac (P:PT) (x0a x0b:Int) (x1:Value) (H:AHeap) (h:B2 P x0a x0b x1 H):AC Tryz.prog T0 110 [(Value.agg ⟨[(Value.int .i64 x0a),(Value.int .i64 x0b)]⟩),x1] H P:=
  r_fn T0_ok (c:=code) (n:=8) Tryz.func110 body (by kernel_rfl) (main P) (En_mk (x0a,x0b,x1,()) (by kernel_rfl) ⟨by kernel_rfl,by kernel_rfl,trivial⟩ h)

end F110
namespace F111
abbrev E:=En 36
abbrev Q:=QB Tryz.prog T0 36
def O (k:Nat):=ob Tryz.f111 (pth k)
def ret (P:PT):EP:=retE T0 36 Tryz.f111 P
abbrev k0:Sk:=[]
def o1:=O 30
def B1 (P:PT):Y k0:=fun H=>
  P (Value.int .i64 0) H
theorem q1 P:Q o1 (ret P) k0 (B1 P):=fun _ _=>by kernel_rfl
def o2:=O 116
def B2 (P:PT):Y k0:=fun H=>
  P (Value.int .i64 (-1)) H
theorem q2 P:Q o2 (ret P) k0 (B2 P):=fun _ _=>by kernel_rfl
abbrev k1:Sk:=[(0,.v),(1,.v)]
def o3:=O 28
def B3 (P:PT):Y k1:=fun x0 x1 H=>
  lenK x0 (fun n1=>lenK x1 (fun n2=>pif (decide (((n1:Int):Int)<(n2:Int))) (B2 P H) (B1 P H)))
theorem q3 P:Q o3 (cnd 35 (E k0 (B2 P)) (E k0 (B1 P))) k1 (B3 P):=fun _ _ _ _=>by kernel_rfl
abbrev k2:Sk:=[(0,.v),(1,.v),(9,.v),(10,J),(11,J)]
def o5:=O 423
def B5 (P:PT) (N4:Y k2):Y k2:=fun x0 x1 x9 x10 x11 H=>
  N4 x0 x1 x9 x10 (IntKind.i64.wrap (x11+1)) H
theorem q5 P N4:Q o5 (E k2 N4) k2 (B5 P N4):=fun _ _ _ _ _ _ _=>by kernel_rfl
abbrev k3:Sk:=[(8,J)]
def o6:=O 108156
def B6 (P:PT) (N4:Y k2):Y k3:=fun x8 H=>
  P (Value.int .i64 x8) H
theorem q6 P N4:Q o6 (ret P) k3 (B6 P N4):=fun _ _ _=>by kernel_rfl
abbrev k4:Sk:=[(0,.v),(1,.v),(8,J),(9,.v),(10,J),(11,J)]
def o7:=O 27038
def B7 (P:PT) (N4:Y k2):Y k4:=fun x0 x1 x8 x9 x10 x11 H=>
  pif ((x8:Int) != 0) (B6 P N4 x8 H) (B5 P N4 x0 x1 x9 x10 x11 H)
theorem q7 P N4:Q o7 (cnd 28 (E k3 (B6 P N4)) (E k2 (B5 P N4))) k4 (B7 P N4):=fun _ _ _ _ _ _ _ _=>by kernel_rfl
abbrev k5:Sk:=[(0,.v),(1,.v),(6,J),(7,J),(9,.v),(10,J),(11,J)]
def o8:=O 13518
def B8 (P:PT) (N4:Y k2):Y k5:=fun x0 x1 x6 x7 x9 x10 x11 H=>
  AC Tryz.prog T0 120 [(Value.int .i64 x6),(Value.int .i64 x7)] H (fun v1 H2=>asI .i64 v1 (fun v3=>B7 P N4 x0 x1 v3 x9 x10 x11 H2))
theorem q8 P N4:Q o8 (E k4 (B7 P N4)) k5 (B8 P N4):=fun _ _ _ _ _ _ _ _ _=>by kernel_rfl
abbrev k6:Sk:=[(0,.v),(1,.v),(5,J),(6,J),(9,.v),(10,J),(11,J)]
def o9:=O 6758
def B9 (P:PT) (N4:Y k2):Y k6:=fun x0 x1 x5 x6 x9 x10 x11 H=>
  idxK x1 x5 1 (fun b1 o2=>ldI .i64 H b1 o2 (fun v3=>B8 P N4 x0 x1 x6 v3 x9 x10 x11 H))
theorem q9 P N4:Q o9 (E k5 (B8 P N4)) k6 (B9 P N4):=fun _ _ _ _ _ _ _ _ _=>by kernel_rfl
def o10:=O 27028
def B10 (P:PT) (N4:Y k2):Y k0:=fun H=>
  P (Value.int .i64 1) H
theorem q10 P N4:Q o10 (ret P) k0 (B10 P N4):=fun _ _=>by kernel_rfl
def o11:=O 6756
def B11 (P:PT) (N4:Y k2):Y k6:=fun x0 x1 x5 x6 x9 x10 x11 H=>
  lenK x1 (fun n1=>pif (decide ((x5:Int)≥(n1:Int))) (B10 P N4 H) (B9 P N4 x0 x1 x5 x6 x9 x10 x11 H))
theorem q11 P N4:Q o11 (cnd 19 (E k0 (B10 P N4)) (E k6 (B9 P N4))) k6 (B11 P N4):=fun _ _ _ _ _ _ _ _ _=>by kernel_rfl
def o12:=O 1688
def B12 (P:PT) (N4:Y k2):Y k2:=fun x0 x1 x9 x10 x11 H=>
  idxK x9 x11 1 (fun b1 o2=>ldI .i64 H b1 o2 (fun v3=>B11 P N4 x0 x1 x11 v3 x9 x10 x11 H))
theorem q12 P N4:Q o12 (E k6 (B11 P N4)) k2 (B12 P N4):=fun _ _ _ _ _ _ _=>by kernel_rfl
def o13:=O 104
def B13 (P:PT) (N4:Y k2):Y k2:=fun x0 x1 x9 x10 x11 H=>
  pif (decide ((x11:Int)<x10)) (B12 P N4 x0 x1 x9 x10 x11 H) (B3 P x0 x1 H)
theorem q13 P N4:Q o13 (cnd 12 (E k2 (B12 P N4)) (E k1 (B3 P))) k2 (B13 P N4):=fun _ _ _ _ _ _ _=>by kernel_rfl
def L4 (P:PT):Y k2:=fun x0 x1 x9 x10 x11 H=>
  ∃ (I:Y k2) (μ:NTy k2 (AHeap→Nat)),I x0 x1 x9 x10 x11 H∧∀ y0 y1 y9 y10 y11 G,I y0 y1 y9 y10 y11 G→B13 P (fun z0 z1 z9 z10 z11 G'=>I z0 z1 z9 z10 z11 G'∧μ z0 z1 z9 z10 z11 G'<μ y0 y1 y9 y10 y11 G) y0 y1 y9 y10 y11 G
theorem l4 P:LQ k2 (L4 P) (B13 P):=fun ⟨_,_,_,_,_,_⟩ _ ⟨I,μ,h0,hI⟩=>⟨apT _ I,apT _ μ,h0,fun ⟨_,_,_,_,_,_⟩ _ h=>hI _ _ _ _ _ _  h⟩
def o14:=O 12
def B14 (P:PT):Y k1:=fun x0 x1 H=>
  lenK x0 (fun n1=>L4 P x0 x1 x0 (n1:Int) 0 H)
theorem q14 P:Q o14 (E k2 (L4 P)) k1 (B14 P):=fun _ _ _ _=>by kernel_rfl
def o15:=O 2
def B15 (P:PT):Y k1:=fun x0 x1 H=>
  B14 P x0 x1 H
theorem q15 P:Q o15 (E k1 (B14 P)) k1 (B15 P):=fun _ _ _ _=>by kernel_rfl
def code:Code:=(.seq (R 0 o15) (.seq (.seq (R 1 o14) (.block 0 (.loop (.seq (R 2 o13) (.seq (.cond (.tmp 12) .skip (.exit 0)) (.seq (.block 1 (.seq (R 3 o12) (.seq (.seq (R 4 o11) (.cond (.tmp 19) (.seq (R 5 o10) .ret) .skip)) (.seq (R 6 o9) (.seq (R 7 o8) (.seq (R 8 o7) (.cond (.tmp 28) (.seq (R 9 o6) .ret) .skip))))))) (R 10 o5))))))) (.seq (.seq (R 11 o3) (.cond (.tmp 35) (.seq (R 12 o2) .ret) .skip)) (.seq (R 13 o1) .ret))))
theorem body:Tryz.f111.body=some code:=by kernel_rfl
theorem main (P:PT):∀ env H,(En 36 k1 (B15 P)) env H→AW Tryz.prog T0 code env H (M (ret P)):=
  (r_seq (b (q15 P)) (r_seq (r_seq (b (q14 P)) (r_block (rL (l4 P) (fun N4=>(r_seq (b (q13 P N4)) (r_seq (r_cond rfl r_skip (r_exit (fun _ _ h=>h))) (r_seq (r_block (r_seq (b (q12 P N4)) (r_seq (r_seq (b (q11 P N4)) (r_cond rfl (r_seq (b (q10 P N4)) r_ret) r_skip)) (r_seq (b (q9 P N4)) (r_seq (b (q8 P N4)) (r_seq (b (q7 P N4)) (r_cond rfl (r_seq (b (q6 P N4)) r_ret) r_skip))))))) (b (q5 P N4))))))))) (r_seq (r_seq (b (q3 P)) (r_cond rfl (r_seq (b (q2 P)) r_ret) r_skip)) (r_seq (b (q1 P)) r_ret))))
theorem ac (P:PT) (x0 x1:Value) (H:AHeap) (h:B15 P x0 x1 H):AC Tryz.prog T0 111 [x0,x1] H P:=
  r_fn T0_ok (c:=code) (n:=36) Tryz.func111 body (by kernel_rfl) (main P) (En_mk (x0,x1,()) (by kernel_rfl) ⟨by kernel_rfl,by kernel_rfl,trivial⟩ h)

end F111
namespace F112
abbrev E:=En 9
abbrev Q:=QB Tryz.prog T0 9
def O (k:Nat):=ob Tryz.f112 (pth k)
def ret (P:PT):EP:=retE T0 9 Tryz.f112 P
abbrev k0:Sk:=[(0,.v),(3,.x)]
def o1:=O 6
def B1 (P:PT):Y k0:=fun x0 x3 H=>
  AC Tryz.prog T0 121 [x0,(Value.func (.func 122) ⟨[]⟩ ⟨[(Value.pointer (some ⟨x3,0,none⟩))]⟩)] H (fun v1 H2=>asB v1 (fun v3=>P (Value.bool (!v3)) H2))
theorem q1 P:Q o1 (ret P) k0 (B1 P):=fun _ _ _ _=>by kernel_rfl
abbrev k1:Sk:=[(0,.v),(1,.v)]
def o2:=O 2
def B2 (P:PT):Y k1:=fun x0 x1 H=>
  pif (Value.oneCell' x1) (newK H [x1] 126 (fun b1 H2=>B1 P x0 b1 H2)) False
theorem q2 P:Q o2 (E k0 (B1 P)) k1 (B2 P):=fun _ _ _ _=>by kernel_rfl
def code:Code:=(.seq (R 0 o2) (.seq (R 1 o1) .ret))
theorem body:Tryz.f112.body=some code:=by kernel_rfl
theorem main (P:PT):∀ env H,(En 9 k1 (B2 P)) env H→AW Tryz.prog T0 code env H (M (ret P)):=
  (r_seq (b (q2 P)) (r_seq (b (q1 P)) r_ret))
theorem ac (P:PT) (x0 x1:Value) (H:AHeap) (h:B2 P x0 x1 H):AC Tryz.prog T0 112 [x0,x1] H P:=
  r_fn T0_ok (c:=code) (n:=9) Tryz.func112 body (by kernel_rfl) (main P) (En_mk (x0,x1,()) (by kernel_rfl) ⟨by kernel_rfl,by kernel_rfl,trivial⟩ h)

end F112
namespace F113
abbrev E:=En 5
abbrev Q:=QB Tryz.prog T0 5
def O (k:Nat):=ob Tryz.f113 (pth k)
def ret (P:PT):EP:=retE T0 5 Tryz.f113 P
abbrev k0:Sk:=[(0,J)]
def o1:=O 6
def B1 (P:PT):Y k0:=fun x0 H=>
  P (Value.bool ((x0:Int)==3)) H
theorem q1 P:Q o1 (ret P) k0 (B1 P):=fun _ _ _=>by kernel_rfl
def o2:=O 2
def B2 (P:PT):Y k0:=fun x0 H=>
  B1 P x0 H
theorem q2 P:Q o2 (E k0 (B1 P)) k0 (B2 P):=fun _ _ _=>by kernel_rfl
def code:Code:=(.seq (R 0 o2) (.seq (R 1 o1) .ret))
theorem body:Tryz.f113.body=some code:=by kernel_rfl
theorem main (P:PT):∀ env H,(En 5 k0 (B2 P)) env H→AW Tryz.prog T0 code env H (M (ret P)):=
  (r_seq (b (q2 P)) (r_seq (b (q1 P)) r_ret))
theorem ac (P:PT) (x0:Int) (H:AHeap) (h:B2 P x0 H):AC Tryz.prog T0 113 [(Value.int .i64 x0)] H P:=
  r_fn T0_ok (c:=code) (n:=5) Tryz.func113 body (by kernel_rfl) (main P) (En_mk (x0,()) (by kernel_rfl) ⟨by kernel_rfl,trivial⟩ h)

end F113
namespace F114
abbrev E:=En 72
abbrev Q:=QB Tryz.prog T0 72
def O (k:Nat):=ob Tryz.f114 (pth k)
def ret (P:PT):EP:=retE T0 72 Tryz.f114 P
abbrev k0:Sk:=[(7,.v)]
def o1:=O 62
def B1 (P:PT):Y k0:=fun x7 H=>
  P x7 H
theorem q1 P:Q o1 (ret P) k0 (B1 P):=fun _ _ _=>by kernel_rfl
abbrev k1:Sk:=[(2,.i .u64),(3,.x),(7,.v),(8,.v)]
def o3:=O 979
def B3 (P:PT) (N2:Y k1):Y k1:=fun x2 x3 x7 x8 H=>
  sliceK H 2 x8 (some (Value.int .i64 1)) none 1 (fun v1=>N2 x2 x3 x7 v1 H)
theorem q3 P N2:Q o3 (E k1 N2) k1 (B3 P N2):=fun _ _ _ _ _ _=>by kernel_rfl
abbrev k2:Sk:=[(2,.i .u64),(3,.x),(7,.v),(8,.v),(30,.v),(31,J),(32,J)]
def o5:=O 125223
def B5 (P:PT) (N2:Y k1) (N4:Y k2):Y k2:=fun x2 x3 x7 x8 x30 x31 x32 H=>
  N4 x2 x3 x7 x8 x30 x31 (IntKind.i64.wrap (x32+1)) H
theorem q5 P N2 N4:Q o5 (E k2 N4) k2 (B5 P N2 N4):=fun _ _ _ _ _ _ _ _ _=>by kernel_rfl
abbrev k3:Sk:=[(2,.i .u64),(3,.x),(7,.v),(8,.v),(11,J),(30,.v),(31,J),(32,J)]
def o6:=O 8014237
def B6 (P:PT) (N2:Y k1) (N4:Y k2):Y k3:=fun x2 x3 x7 x8 x11 x30 x31 x32 H=>
  newK H [(Value.int .i64 x11)] 2 (fun b1 H2=>apK T0 2 H2 x8 (Value.slice (some ⟨b1,0,none⟩) 1 (1+1)) (fun v3 H4=>B5 P N2 N4 x2 x3 x7 v3 x30 x31 x32 H4))
theorem q6 P N2 N4:Q o6 (E k2 (B5 P N2 N4)) k3 (B6 P N2 N4):=fun _ _ _ _ _ _ _ _ _ _=>by kernel_rfl
def o7:=O 8014236
def B7 (P:PT) (N2:Y k1) (N4:Y k2):Y k3:=fun x2 x3 x7 x8 x11 x30 x31 x32 H=>
  idxK x8 0 1 (fun b1 o2=>ldI .i64 H b1 o2 (fun v3=>idxK x7 v3 1 (fun b4 o5=>ldI .i64 H b4 o5 (fun v6=>idxK x7 x11 1 (fun b7 o8=>stK H b7 o8 [(Value.int .i64 (IntKind.i64.wrap (v6+1)))] (fun H9=>B6 P N2 N4 x2 x3 x7 x8 x11 x30 x31 x32 H9))))))
theorem q7 P N2 N4:Q o7 (E k3 (B6 P N2 N4)) k3 (B7 P N2 N4):=fun _ _ _ _ _ _ _ _ _ _=>by kernel_rfl
abbrev k4:Sk:=[(2,.i .u64),(3,.x),(7,.v),(8,.v),(10,J),(11,J),(30,.v),(31,J),(32,J)]
def o8:=O 2003558
def B8 (P:PT) (N2:Y k1) (N4:Y k2):Y k4:=fun x2 x3 x7 x8 x10 x11 x30 x31 x32 H=>
  idxK x7 x11 1 (fun b1 o2=>ldI .i64 H b1 o2 (fun v3=>pif (decide ((v3:Int)<0)) (AC Tryz.prog T0 42 [(Value.int .u64 x2),(Value.int .i64 x10)] H (fun v4 H5=>asB v4 (fun v6=>pif (!v6) (B7 P N2 N4 x2 x3 x7 x8 x11 x30 x31 x32 H5) (B5 P N2 N4 x2 x3 x7 x8 x30 x31 x32 H5)))) (B5 P N2 N4 x2 x3 x7 x8 x30 x31 x32 H)))
theorem q8 P N2 N4:Q o8 (cnd 55 (E k3 (B7 P N2 N4)) (E k2 (B5 P N2 N4))) k4 (B8 P N2 N4):=fun _ _ _ _ _ _ _ _ _ _ _=>by kernel_rfl
abbrev k5:Sk:=[(2,.i .u64),(3,.x),(7,.v),(8,.v),(10,J),(30,.v),(31,J),(32,J)]
def o9:=O 1001778
def B9 (P:PT) (N2:Y k1) (N4:Y k2):Y k5:=fun x2 x3 x7 x8 x10 x30 x31 x32 H=>
  ld1 H x3 1 (fun v1=>idxK v1 x10 2 (fun b2 o3=>ldI .i64 H b2 o3 (fun v4=>ldI .i64 H b2 (o3+1) (fun v5=>idxK x8 0 1 (fun b6 o7=>ldI .i64 H b6 o7 (fun v8=>AC Tryz.prog T0 92 [(Value.agg ⟨[(Value.int .i64 v4),(Value.int .i64 v5)]⟩),(Value.int .i64 v8)] H (fun v9 H10=>asI .i64 v9 (fun v11=>B8 P N2 N4 x2 x3 x7 x8 x10 v11 x30 x31 x32 H10))))))))
theorem q9 (P:PT) (N2:Y k1) (N4:Y k2):QD Tryz.prog T0 72 o9 [(0,false),(1,false),(2,false),(3,false),(4,false),(5,false),(6,false),(7,false),(8,false),(9,false)] (En 72 k4 (B8 P N2 N4)) k5 (B9 P N2 N4):=fun _ _ _ _ _ _ _ _ _ _  => by kernel_rfl
def o10:=O 500888
def B10 (P:PT) (N2:Y k1) (N4:Y k2):Y k2:=fun x2 x3 x7 x8 x30 x31 x32 H=>
  idxK x30 x32 1 (fun b1 o2=>ldI .i64 H b1 o2 (fun v3=>B9 P N2 N4 x2 x3 x7 x8 v3 x30 x31 x32 H))
theorem q10 P N2 N4:Q o10 (E k5 (B9 P N2 N4)) k2 (B10 P N2 N4):=fun _ _ _ _ _ _ _ _ _=>by kernel_rfl
def o11:=O 31304
def B11 (P:PT) (N2:Y k1) (N4:Y k2):Y k2:=fun x2 x3 x7 x8 x30 x31 x32 H=>
  pif (decide ((x32:Int)<x31)) (B10 P N2 N4 x2 x3 x7 x8 x30 x31 x32 H) (B3 P N2 x2 x3 x7 x8 H)
theorem q11 P N2 N4:Q o11 (cnd 33 (E k2 (B10 P N2 N4)) (E k1 (B3 P N2))) k2 (B11 P N2 N4):=fun _ _ _ _ _ _ _ _ _=>by kernel_rfl
def L4 (P:PT) (N2:Y k1):Y k2:=fun x2 x3 x7 x8 x30 x31 x32 H=>
  ∃ (I:Y k2) (μ:NTy k2 (AHeap→Nat)),I x2 x3 x7 x8 x30 x31 x32 H∧∀ y2 y3 y7 y8 y30 y31 y32 G,I y2 y3 y7 y8 y30 y31 y32 G→B11 P N2 (fun z2 z3 z7 z8 z30 z31 z32 G'=>I z2 z3 z7 z8 z30 z31 z32 G'∧μ z2 z3 z7 z8 z30 z31 z32 G'<μ y2 y3 y7 y8 y30 y31 y32 G) y2 y3 y7 y8 y30 y31 y32 G
theorem l4 P N2:LQ k2 (L4 P N2) (B11 P N2):=fun ⟨_,_,_,_,_,_,_,_⟩ _ ⟨I,μ,h0,hI⟩=>⟨apT _ I,apT _ μ,h0,fun ⟨_,_,_,_,_,_,_,_⟩ _ h=>hI _ _ _ _ _ _ _ _  h⟩
def o12:=O 3912
def B12 (P:PT) (N2:Y k1):Y k1:=fun x2 x3 x7 x8 H=>
  ldI .i64 H x3 0 (fun v1=>ld1 H x3 1 (fun v2=>idxK x8 0 1 (fun b3 o4=>ldI .i64 H b3 o4 (fun v5=>AC Tryz.prog T0 63 [(Value.agg ⟨[(Value.int .i64 v1),v2]⟩),(Value.int .i64 v5)] H (fun v6 H7=>lenK v6 (fun n9=>L4 P N2 x2 x3 x7 x8 v6 (n9:Int) 0 H7))))))
theorem q12 (P:PT) (N2:Y k1):QD Tryz.prog T0 72 o12 [(0,false),(1,false),(2,false),(3,false),(6,false),(4,false),(5,false)] (En 72 k2 (L4 P N2)) k1 (B12 P N2):=fun _ _ _ _ _ _  => by kernel_rfl
def o13:=O 976
def B13 (P:PT) (N2:Y k1):Y k1:=fun x2 x3 x7 x8 H=>
  lenK x8 (fun n1=>pif (decide (((n1:Int):Int)>0)) (B12 P N2 x2 x3 x7 x8 H) (B1 P x7 H))
theorem q13 P N2:Q o13 (cnd 23 (E k1 (B12 P N2)) (E k0 (B1 P))) k1 (B13 P N2):=fun _ _ _ _ _ _=>by kernel_rfl
def L2 (P:PT):Y k1:=fun x2 x3 x7 x8 H=>
  ∃ (I:Y k1) (μ:NTy k1 (AHeap→Nat)),I x2 x3 x7 x8 H∧∀ y2 y3 y7 y8 G,I y2 y3 y7 y8 G→B13 P (fun z2 z3 z7 z8 G'=>I z2 z3 z7 z8 G'∧μ z2 z3 z7 z8 G'<μ y2 y3 y7 y8 G) y2 y3 y7 y8 G
theorem l2 P:LQ k1 (L2 P) (B13 P):=fun ⟨_,_,_,_,_⟩ _ ⟨I,μ,h0,hI⟩=>⟨apT _ I,apT _ μ,h0,fun ⟨_,_,_,_,_⟩ _ h=>hI _ _ _ _ _  h⟩
abbrev k6:Sk:=[(1,J),(2,.i .u64),(3,.x),(7,.v)]
def o14:=O 60
def B14 (P:PT):Y k6:=fun x1 x2 x3 x7 H=>
  newK H [(Value.int .i64 x1)] 2 (fun b1 H2=>L2 P x2 x3 x7 (Value.slice (some ⟨b1,0,none⟩) 1 (1+1)) H2)
theorem q14 P:Q o14 (E k1 (L2 P)) k6 (B14 P):=fun _ _ _ _ _ _=>by kernel_rfl
def o15:=O 14
def B15 (P:PT):Y k6:=fun x1 x2 x3 x7 H=>
  idxK x7 x1 1 (fun b1 o2=>stK H b1 o2 [(Value.int .i64 0)] (fun H3=>B14 P x1 x2 x3 x7 H3))
theorem q15 P:Q o15 (E k6 (B14 P)) k6 (B15 P):=fun _ _ _ _ _ _=>by kernel_rfl
abbrev k7:Sk:=[(1,J),(2,.i .u64),(3,.x)]
def o16:=O 6
def B16 (P:PT):Y k7:=fun x1 x2 x3 H=>
  newK H [(Value.int .i64 (-1))] 2 (fun b1 H2=>ldI .i64 H2 x3 0 (fun v3=>AC Tryz.prog T0 100 [(Value.slice (some ⟨b1,0,none⟩) 1 (1+1)),(Value.int .i64 v3)] H2 (fun v4 H5=>B15 P x1 x2 x3 v4 H5)))
theorem q16 P:Q o16 (E k6 (B15 P)) k7 (B16 P):=fun _ _ _ _ _=>by kernel_rfl
abbrev k8:Sk:=[(0,.g [.i,.v]),(1,J),(2,.i .u64)]
def o17:=O 2
def B17 (P:PT):Y k8:=fun x0a x0b x1 x2 H=>
  newK H [(Value.int .i64 x0a),x0b] 26 (fun b1 H2=>B16 P x1 x2 b1 H2)
theorem q17 P:Q o17 (E k7 (B16 P)) k8 (B17 P):=fun _ _ _ _ _ _=>by kernel_rfl
def code:Code:=(.seq (R 0 o17) (.seq (R 1 o16) (.seq (R 2 o15) (.seq (.seq (R 3 o14) (.block 0 (.loop (.seq (.seq (R 4 o13) (.cond (.tmp 23) .skip (.exit 0))) (.seq (.block 1 (.seq (.region 6 ⟨o12⟩ true) (.block 2 (.loop (.seq (R 7 o11) (.seq (.cond (.tmp 33) .skip (.exit 2)) (.seq (.block 3 (.seq (R 8 o10) (.seq (.region 9 ⟨o9⟩ true) (.seq (R 10 o8) (.cond (.tmp 55) (.seq (R 11 o7) (R 12 o6)) .skip))))) (R 13 o5)))))))) (R 5 o3)))))) (.seq (R 14 o1) .ret)))))
theorem body:Tryz.f114.body=some code:=by kernel_rfl
theorem main (P:PT):∀ env H,(En 72 k8 (B17 P)) env H→AW Tryz.prog T0 code env H (M (ret P)):=
  (r_seq (b (q17 P)) (r_seq (b (q16 P)) (r_seq (b (q15 P)) (r_seq (r_seq (b (q14 P)) (r_block (rL (l2 P) (fun N2=>(r_seq (r_seq (b (q13 P N2)) (r_cond rfl r_skip (r_exit (fun _ _ h=>h)))) (r_seq (r_block (r_seq (rD T0_ok mixed [(0,false),(1,false),(2,false),(3,false),(6,false),(4,false),(5,false)] (by kernel_rfl) (q12 P N2)) (r_block (rL (l4 P N2) (fun N4=>(r_seq (b (q11 P N2 N4)) (r_seq (r_cond rfl r_skip (r_exit (fun _ _ h=>h))) (r_seq (r_block (r_seq (b (q10 P N2 N4)) (r_seq (rD T0_ok mixed [(0,false),(1,false),(2,false),(3,false),(4,false),(5,false),(6,false),(7,false),(8,false),(9,false)] (by kernel_rfl) (q9 P N2 N4)) (r_seq (b (q8 P N2 N4)) (r_cond rfl (r_seq (b (q7 P N2 N4)) (b (q6 P N2 N4))) r_skip))))) (b (q5 P N2 N4)))))))))) (b (q3 P N2)))))))) (r_seq (b (q1 P)) r_ret)))))
theorem ac (P:PT) (x0a:Int) (x0b:Value) (x1 x2:Int) (H:AHeap) (h:B17 P x0a x0b x1 x2 H):AC Tryz.prog T0 114 [(Value.agg ⟨[(Value.int .i64 x0a),x0b]⟩),(Value.int .i64 x1),(Value.int .u64 x2)] H P:=
  r_fn T0_ok (c:=code) (n:=72) Tryz.func114 body (by kernel_rfl) (main P) (En_mk (x0a,x0b,x1,x2,()) (by kernel_rfl) ⟨by kernel_rfl,by kernel_rfl,by kernel_rfl,trivial⟩ h)

end F114
namespace F115
abbrev E:=En 30
abbrev Q:=QB Tryz.prog T0 30
def O (k:Nat):=ob Tryz.f115 (pth k)
def ret (P:PT):EP:=retE T0 30 Tryz.f115 P
abbrev k0:Sk:=[(8,.i .u64),(9,.i .u64)]
def o1:=O 30
def B1 (P:PT):Y k0:=fun x8 x9 H=>
  P (Value.tuple ⟨[(Value.int .u64 x8),(Value.int .u64 x9)]⟩) H
theorem q1 P:Q o1 (ret P) k0 (B1 P):=fun _ _ _ _=>by kernel_rfl
abbrev k1:Sk:=[(0,.i .u64),(1,.i .u64)]
def o2:=O 14
def B2 (P:PT):Y k1:=fun x0 x1 H=>
  AC Tryz.prog T0 124 [(Value.int .u64 x0),(Value.int .u64 x1)] H (fun v1 H2=>tup2 v1 (fun v3 v4=>asI .u64 v3 (fun v5=>asI .u64 v4 (fun v6=>B1 P v5 v6 H2))))
theorem q2 P:Q o2 (E k0 (B1 P)) k1 (B2 P):=fun _ _ _ _=>by kernel_rfl
def o3:=O 2
def B3 (P:PT):Y k1:=fun x0 x1 H=>
  B2 P x0 x1 H
theorem q3 P:Q o3 (E k1 (B2 P)) k1 (B3 P):=fun _ _ _ _=>by kernel_rfl
def code:Code:=(.seq (R 0 o3) (.seq (.cond (.const (.bool false)) (codeAt (bodyOf Tryz.f115) [.r,.l,.l]) .skip) (.seq (R 3 o2) (.seq (R 4 o1) .ret))))
theorem body:Tryz.f115.body=some code:=by kernel_rfl
theorem main (P:PT):∀ env H,(En 30 k1 (B3 P)) env H→AW Tryz.prog T0 code env H (M (ret P)):=
  (r_seq (b (q3 P)) (r_seq (r_condF r_skip) (r_seq (b (q2 P)) (r_seq (b (q1 P)) r_ret))))
theorem ac (P:PT) (x0 x1:Int) (H:AHeap) (h:B3 P x0 x1 H):AC Tryz.prog T0 115 [(Value.int .u64 x0),(Value.int .u64 x1)] H P:=
  r_fn T0_ok (c:=code) (n:=30) Tryz.func115 body (by kernel_rfl) (main P) (En_mk (x0,x1,()) (by kernel_rfl) ⟨by kernel_rfl,by kernel_rfl,trivial⟩ h)

end F115
namespace F116
abbrev E:=En 41
abbrev Q:=QB Tryz.prog T0 41
def O (k:Nat):=ob Tryz.f116 (pth k)
def ret (P:PT):EP:=retE T0 41 Tryz.f116 P
abbrev k0:Sk:=[(0,.v),(1,J)]
def o1:=O 3
def B1 (P:PT):Y k0:=fun x0 x1 H=>
  nilK x0 (fun v1=>asP v1 (fun b2 o3=>ld1 H b2 (o3+3) (fun v4=>idxK v4 x1 1 (fun b5 o6=>stK H b5 o6 [(Value.int .i64 (-1))] (fun H7=>P (Value.tuple ⟨[]⟩) H7)))))
theorem q1 P:Q o1 (ret P) k0 (B1 P):=fun _ _ _ _=>by kernel_rfl
abbrev k1:Sk:=[(0,.v),(1,J),(13,.g [.i,.i]),(14,J)]
def o3:=O 167
def B3 (P:PT) (N2:Y k1):Y k1:=fun x0 x1 x13a x13b x14 H=>
  N2 x0 x1 x13a x13b (IntKind.i64.wrap (x14+1)) H
theorem q3 P N2:Q o3 (E k1 N2) k1 (B3 P N2):=fun _ _ _ _ _ _ _=>by kernel_rfl
abbrev k2:Sk:=[(0,.v),(1,J),(5,J),(13,.g [.i,.i]),(14,J)]
def o4:=O 665
def B4 (P:PT) (N2:Y k1):Y k2:=fun x0 x1 x5 x13a x13b x14 H=>
  nilK x0 (fun v1=>asP v1 (fun b2 o3=>ld1 H b2 (o3+4) (fun v4=>idxK v4 x5 1 (fun b5 o6=>ldI .u64 H b5 o6 (fun v7=>nilK x0 (fun v8=>asP v8 (fun b9 o10=>ld1 H b9 (o10+3) (fun v11=>idxK v11 x1 1 (fun b12 o13=>ldI .i64 H b12 o13 (fun v14=>((0:Int)≤v14)∧(idxK v4 x5 1 (fun b15 o16=>stK H b15 o16 [(Value.int .u64 (IntKind.u64.wrap (BitVec.ofInt 64 v7&&&~~~(BitVec.ofInt 64 (IntKind.u64.wrap (1*2^(min (Int.toNat v14) 64))))).toNat))] (fun H17=>B3 P N2 x0 x1 x13a x13b x14 H17)))))))))))))
theorem q4 (P:PT) (N2:Y k1):QD Tryz.prog T0 41 o4 [(0,false),(1,false),(2,false),(3,false),(4,false),(5,false),(6,false),(7,false),(8,false),(9,false),(10,false),(11,false),(12,false),(13,false),(14,false),(15,false),(16,false),(17,false)] (En 41 k1 (B3 P N2)) k2 (B4 P N2):=fun _ _ _ _ _ _ _ _  => by kernel_rfl
def o5:=O 664
def B5 (P:PT) (N2:Y k1):Y k1:=fun x0 x1 x13a x13b x14 H=>
  bndK x14 2 (atK [(Value.int .i64 x13a),(Value.int .i64 x13b)] (Int.toNat x14*1) (fun v1=>asI .i64 v1 (fun v2=>B4 P N2 x0 x1 v2 x13a x13b x14 H)))
theorem q5 P N2:Q o5 (E k2 (B4 P N2)) k1 (B5 P N2):=fun _ _ _ _ _ _ _=>by kernel_rfl
def o6:=O 40
def B6 (P:PT) (N2:Y k1):Y k1:=fun x0 x1 x13a x13b x14 H=>
  pif (decide ((x14:Int)<2)) (B5 P N2 x0 x1 x13a x13b x14 H) (B1 P x0 x1 H)
theorem q6 P N2:Q o6 (cnd 15 (E k1 (B5 P N2)) (E k0 (B1 P))) k1 (B6 P N2):=fun _ _ _ _ _ _ _=>by kernel_rfl
def L2 (P:PT):Y k1:=fun x0 x1 x13a x13b x14 H=>
  ∃ (I:Y k1) (μ:NTy k1 (AHeap→Nat)),I x0 x1 x13a x13b x14 H∧∀ y0 y1 y13a y13b y14 G,I y0 y1 y13a y13b y14 G→B6 P (fun z0 z1 z13a z13b z14 G'=>I z0 z1 z13a z13b z14 G'∧μ z0 z1 z13a z13b z14 G'<μ y0 y1 y13a y13b y14 G) y0 y1 y13a y13b y14 G
theorem l2 P:LQ k1 (L2 P) (B6 P):=fun ⟨_,_,_,_,_,_⟩ _ ⟨I,μ,h0,hI⟩=>⟨apT _ I,apT _ μ,h0,fun ⟨_,_,_,_,_,_⟩ _ h=>hI _ _ _ _ _ _  h⟩
def o7:=O 4
def B7 (P:PT):Y k0:=fun x0 x1 H=>
  nilK x0 (fun v1=>asP v1 (fun b2 o3=>ld1 H b2 (o3+1) (fun v4=>idxK v4 x1 2 (fun b5 o6=>ldI .i64 H b5 o6 (fun v7=>ldI .i64 H b5 (o6+1) (fun v8=>L2 P x0 x1 v7 v8 0 H))))))
theorem q7 P:Q o7 (E k1 (L2 P)) k0 (B7 P):=fun _ _ _ _=>by kernel_rfl
def code:Code:=(.seq (.seq (R 0 o7) (.block 0 (.loop (.seq (R 1 o6) (.seq (.cond (.tmp 15) .skip (.exit 0)) (.seq (.block 1 (.seq (R 2 o5) (.region 3 ⟨o4⟩ true))) (R 4 o3))))))) (R 5 o1))
theorem body:Tryz.f116.body=some code:=by kernel_rfl
theorem main (P:PT):∀ env H,(En 41 k0 (B7 P)) env H→AW Tryz.prog T0 code env H (M (ret P)):=
  (r_seq (r_seq (b (q7 P)) (r_block (rL (l2 P) (fun N2=>(r_seq (b (q6 P N2)) (r_seq (r_cond rfl r_skip (r_exit (fun _ _ h=>h))) (r_seq (r_block (r_seq (b (q5 P N2)) (rD T0_ok mixed [(0,false),(1,false),(2,false),(3,false),(4,false),(5,false),(6,false),(7,false),(8,false),(9,false),(10,false),(11,false),(12,false),(13,false),(14,false),(15,false),(16,false),(17,false)] (by kernel_rfl) (q4 P N2)))) (b (q3 P N2))))))))) (b (q1 P)))
theorem ac (P:PT) (x0:Value) (x1:Int) (H:AHeap) (h:B7 P x0 x1 H):AC Tryz.prog T0 116 [x0,(Value.int .i64 x1)] H P:=
  r_fn T0_ok (c:=code) (n:=41) Tryz.func116 body (by kernel_rfl) (main P) (En_mk (x0,x1,()) (by kernel_rfl) ⟨by kernel_rfl,by kernel_rfl,trivial⟩ h)

end F116
namespace F117
abbrev E:=En 19
abbrev Q:=QB Tryz.prog T0 19
def O (k:Nat):=ob Tryz.f117 (pth k)
def ret (P:PT):EP:=retE T0 19 Tryz.f117 P
abbrev k0:Sk:=[]
def o1:=O 14
def B1 (P:PT):Y k0:=fun H=>
  P (Value.int .i64 (-1)) H
theorem q1 P:Q o1 (ret P) k0 (B1 P):=fun _ _=>by kernel_rfl
abbrev k1:Sk:=[(0,.v),(1,.v),(7,J),(8,J)]
def o3:=O 423
def B3 (P:PT) (N2:Y k1):Y k1:=fun x0 x1 x7 x8 H=>
  N2 x0 x1 x7 (IntKind.i64.wrap (x8+1)) H
theorem q3 P N2:Q o3 (E k1 N2) k1 (B3 P N2):=fun _ _ _ _ _ _=>by kernel_rfl
abbrev k2:Sk:=[(5,J)]
def o4:=O 13516
def B4 (P:PT) (N2:Y k1):Y k2:=fun x5 H=>
  P (Value.int .i64 x5) H
theorem q4 P N2:Q o4 (ret P) k2 (B4 P N2):=fun _ _ _=>by kernel_rfl
abbrev k3:Sk:=[(0,.v),(1,.v),(5,J),(7,J),(8,J)]
def o5:=O 3378
def B5 (P:PT) (N2:Y k1):Y k3:=fun x0 x1 x5 x7 x8 H=>
  idxK x0 x5 1 (fun b1 o2=>ldI .i64 H b1 o2 (fun v3=>callV Tryz.prog T0 x1 [(Value.int .i64 v3)] H (fun v4 H5=>asB v4 (fun v6=>pif v6 (B4 P N2 x5 H5) (B3 P N2 x0 x1 x7 x8 H5)))))
theorem q5 P N2:Q o5 (cnd 16 (E k2 (B4 P N2)) (E k1 (B3 P N2))) k3 (B5 P N2):=fun _ _ _ _ _ _ _=>by kernel_rfl
def o6:=O 1688
def B6 (P:PT) (N2:Y k1):Y k1:=fun x0 x1 x7 x8 H=>
  B5 P N2 x0 x1 x8 x7 x8 H
theorem q6 P N2:Q o6 (E k3 (B5 P N2)) k1 (B6 P N2):=fun _ _ _ _ _ _=>by kernel_rfl
def o7:=O 104
def B7 (P:PT) (N2:Y k1):Y k1:=fun x0 x1 x7 x8 H=>
  pif (decide ((x8:Int)<x7)) (B6 P N2 x0 x1 x7 x8 H) (B1 P H)
theorem q7 P N2:Q o7 (cnd 9 (E k1 (B6 P N2)) (E k0 (B1 P))) k1 (B7 P N2):=fun _ _ _ _ _ _=>by kernel_rfl
def L2 (P:PT):Y k1:=fun x0 x1 x7 x8 H=>
  ∃ (I:Y k1) (μ:NTy k1 (AHeap→Nat)),I x0 x1 x7 x8 H∧∀ y0 y1 y7 y8 G,I y0 y1 y7 y8 G→B7 P (fun z0 z1 z7 z8 G'=>I z0 z1 z7 z8 G'∧μ z0 z1 z7 z8 G'<μ y0 y1 y7 y8 G) y0 y1 y7 y8 G
theorem l2 P:LQ k1 (L2 P) (B7 P):=fun ⟨_,_,_,_,_⟩ _ ⟨I,μ,h0,hI⟩=>⟨apT _ I,apT _ μ,h0,fun ⟨_,_,_,_,_⟩ _ h=>hI _ _ _ _ _  h⟩
abbrev k4:Sk:=[(0,.v),(1,.v)]
def o8:=O 12
def B8 (P:PT):Y k4:=fun x0 x1 H=>
  lenK x0 (fun n1=>L2 P x0 x1 (n1:Int) 0 H)
theorem q8 P:Q o8 (E k1 (L2 P)) k4 (B8 P):=fun _ _ _ _=>by kernel_rfl
def o9:=O 2
def B9 (P:PT):Y k4:=fun x0 x1 H=>
  B8 P x0 x1 H
theorem q9 P:Q o9 (E k4 (B8 P)) k4 (B9 P):=fun _ _ _ _=>by kernel_rfl
def code:Code:=(.seq (R 0 o9) (.seq (.seq (R 1 o8) (.block 0 (.loop (.seq (R 2 o7) (.seq (.cond (.tmp 9) .skip (.exit 0)) (.seq (.block 1 (.seq (R 3 o6) (.seq (R 4 o5) (.cond (.tmp 16) (.seq (R 5 o4) .ret) .skip)))) (R 6 o3))))))) (.seq (R 7 o1) .ret)))
theorem body:Tryz.f117.body=some code:=by kernel_rfl
theorem main (P:PT):∀ env H,(En 19 k4 (B9 P)) env H→AW Tryz.prog T0 code env H (M (ret P)):=
  (r_seq (b (q9 P)) (r_seq (r_seq (b (q8 P)) (r_block (rL (l2 P) (fun N2=>(r_seq (b (q7 P N2)) (r_seq (r_cond rfl r_skip (r_exit (fun _ _ h=>h))) (r_seq (r_block (r_seq (b (q6 P N2)) (r_seq (b (q5 P N2)) (r_cond rfl (r_seq (b (q4 P N2)) r_ret) r_skip)))) (b (q3 P N2))))))))) (r_seq (b (q1 P)) r_ret)))
theorem ac (P:PT) (x0 x1:Value) (H:AHeap) (h:B9 P x0 x1 H):AC Tryz.prog T0 117 [x0,x1] H P:=
  r_fn T0_ok (c:=code) (n:=19) Tryz.func117 body (by kernel_rfl) (main P) (En_mk (x0,x1,()) (by kernel_rfl) ⟨by kernel_rfl,by kernel_rfl,trivial⟩ h)

end F117
namespace F118
abbrev E:=En 69
abbrev Q:=QB Tryz.prog T0 69
def O (k:Nat):=ob Tryz.f118 (pth k)
def ret (P:PT):EP:=retE T0 69 Tryz.f118 P
abbrev k0:Sk:=[(3,.v)]
def o1:=O 30
def B1 (P:PT):Y k0:=fun x3 H=>
  P x3 H
theorem q1 P:Q o1 (ret P) k0 (B1 P):=fun _ _ _=>by kernel_rfl
abbrev k1:Sk:=[(0,.v),(3,.v),(4,J)]
def o3:=O 467
def B3 (P:PT) (N2:Y k1):Y k1:=fun x0 x3 x4 H=>
  N2 x0 x3 (IntKind.i64.wrap (x4+1)) H
theorem q3 P N2:Q o3 (E k1 N2) k1 (B3 P N2):=fun _ _ _ _ _=>by kernel_rfl
abbrev k2:Sk:=[(0,.v),(3,.v),(4,J),(5,.x),(6,J)]
def o4:=O 7463
def B4 (P:PT) (N2:Y k1):Y k2:=fun x0 x3 x4 x5 x6 H=>
  ldI .i64 H x5 0 (fun v1=>ldI .i64 H x5 1 (fun v2=>idxK x3 x6 2 (fun b3 o4=>stK H b3 o4 [(Value.int .i64 v1),(Value.int .i64 v2)] (fun H5=>B3 P N2 x0 x3 x4 H5))))
theorem q4 P N2:Q o4 (E k1 (B3 P N2)) k2 (B4 P N2):=fun _ _ _ _ _ _ _=>by kernel_rfl
def o6:=O 238789
def B6 (P:PT) (N2:Y k1) (N5:Y k2):Y k2:=fun x0 x3 x4 x5 x6 H=>
  N5 x0 x3 x4 x5 (IntKind.i64.wrap (x6-1)) H
theorem q6 P N2 N5:Q o6 (E k2 N5) k2 (B6 P N2 N5):=fun _ _ _ _ _ _ _=>by kernel_rfl
def o7:=O 238788
def B7 (P:PT) (N2:Y k1) (N5:Y k2):Y k2:=fun x0 x3 x4 x5 x6 H=>
  idxK x3 (IntKind.i64.wrap (x6-1)) 2 (fun b1 o2=>ldI .i64 H b1 o2 (fun v3=>ldI .i64 H b1 (o2+1) (fun v4=>idxK x3 x6 2 (fun b5 o6=>stK H b5 o6 [(Value.int .i64 v3),(Value.int .i64 v4)] (fun H7=>B6 P N2 N5 x0 x3 x4 x5 x6 H7)))))
theorem q7 P N2 N5:Q o7 (E k2 (B6 P N2 N5)) k2 (B7 P N2 N5):=fun _ _ _ _ _ _ _=>by kernel_rfl
def o8:=O 119392
def B8 (P:PT) (N2:Y k1) (N5:Y k2):Y k2:=fun x0 x3 x4 x5 x6 H=>
  pif (decide ((x6:Int)>0)) (ldI .i64 H x5 0 (fun v1=>ldI .i64 H x5 1 (fun v2=>idxK x3 (IntKind.i64.wrap (x6-1)) 2 (fun b3 o4=>ldI .i64 H b3 o4 (fun v5=>ldI .i64 H b3 (o4+1) (fun v6=>AC Tryz.prog T0 55 [(Value.agg ⟨[(Value.int .i64 v1),(Value.int .i64 v2)]⟩),(Value.agg ⟨[(Value.int .i64 v5),(Value.int .i64 v6)]⟩)] H (fun v7 H8=>asB v7 (fun v9=>pif v9 (B7 P N2 N5 x0 x3 x4 x5 x6 H8) (B4 P N2 x0 x3 x4 x5 x6 H8))))))))) (B4 P N2 x0 x3 x4 x5 x6 H)
theorem q8 (P:PT) (N2:Y k1) (N5:Y k2):QD Tryz.prog T0 69 o8 [(0,false),(1,false),(2,false),(3,false),(4,false),(5,false),(6,false),(7,false),(8,false),(9,false),(10,false)] (cnd 53 (En 69 k2 (B7 P N2 N5)) (En 69 k2 (B4 P N2))) k2 (B8 P N2 N5):=fun _ _ _ _ _ _ _  => by kernel_rfl
def L5 (P:PT) (N2:Y k1):Y k2:=fun x0 x3 x4 x5 x6 H=>
  ∃ (I:Y k2) (μ:NTy k2 (AHeap→Nat)),I x0 x3 x4 x5 x6 H∧∀ y0 y3 y4 y5 y6 G,I y0 y3 y4 y5 y6 G→B8 P N2 (fun z0 z3 z4 z5 z6 G'=>I z0 z3 z4 z5 z6 G'∧μ z0 z3 z4 z5 z6 G'<μ y0 y3 y4 y5 y6 G) y0 y3 y4 y5 y6 G
theorem l5 P N2:LQ k2 (L5 P N2) (B8 P N2):=fun ⟨_,_,_,_,_,_⟩ _ ⟨I,μ,h0,hI⟩=>⟨apT _ I,apT _ μ,h0,fun ⟨_,_,_,_,_,_⟩ _ h=>hI _ _ _ _ _ _  h⟩
def o9:=O 3730
def B9 (P:PT) (N2:Y k1):Y k2:=fun x0 x3 x4 x5 x6 H=>
  ldI .i64 H x5 0 (fun v1=>ldI .i64 H x5 1 (fun v2=>newK H [(Value.int .i64 v1),(Value.int .i64 v2)] 84 (fun b3 H4=>apK T0 84 H4 x3 (Value.slice (some ⟨b3,0,none⟩) 1 (1+1)) (fun v5 H6=>L5 P N2 x0 v5 x4 x5 x6 H6))))
theorem q9 P N2:Q o9 (E k2 (L5 P N2)) k2 (B9 P N2):=fun _ _ _ _ _ _ _=>by kernel_rfl
def o10:=O 1864
def B10 (P:PT) (N2:Y k1):Y k1:=fun x0 x3 x4 H=>
  idxK x0 x4 2 (fun b1 o2=>ldI .i64 H b1 o2 (fun v3=>idxK x0 x4 2 (fun b4 o5=>ldI .i64 H b4 (o5+1) (fun v6=>idxK x0 x4 2 (fun b7 o8=>ldI .i64 H b7 o8 (fun v9=>idxK x0 x4 2 (fun b10 o11=>ldI .i64 H b10 (o11+1) (fun v12=>lenK x3 (fun n13=>newK H [(Value.int .i64 0),(Value.int .i64 0)] 84 (fun b14 H15=>stK H15 b14 0 [(Value.int .i64 (if v6<v3 then v6 else v3)),(Value.int .i64 (if v12>v9 then v12 else v9))] (fun H16=>B9 P N2 x0 x3 x4 b14 (n13:Int) H16)))))))))))
theorem q10 (P:PT) (N2:Y k1):QD Tryz.prog T0 69 o10 [(0,false),(1,false),(2,false),(3,false),(4,false),(5,false),(6,false),(7,false),(8,false),(9,false),(10,false),(11,false),(12,false),(13,false),(14,false),(15,false),(16,false),(17,false),(18,false),(19,false),(20,false),(21,false),(22,false),(23,false),(24,false),(25,false),(26,false),(27,false)] (En 69 k2 (B9 P N2)) k1 (B10 P N2):=fun _ _ _ _ _  => by kernel_rfl
def o11:=O 464
def B11 (P:PT) (N2:Y k1):Y k1:=fun x0 x3 x4 H=>
  lenK x0 (fun n1=>pif (decide ((x4:Int)<(n1:Int))) (B10 P N2 x0 x3 x4 H) (B1 P x3 H))
theorem q11 P N2:Q o11 (cnd 11 (E k1 (B10 P N2)) (E k0 (B1 P))) k1 (B11 P N2):=fun _ _ _ _ _=>by kernel_rfl
def L2 (P:PT):Y k1:=fun x0 x3 x4 H=>
  ∃ (I:Y k1) (μ:NTy k1 (AHeap→Nat)),I x0 x3 x4 H∧∀ y0 y3 y4 G,I y0 y3 y4 G→B11 P (fun z0 z3 z4 G'=>I z0 z3 z4 G'∧μ z0 z3 z4 G'<μ y0 y3 y4 G) y0 y3 y4 G
theorem l2 P:LQ k1 (L2 P) (B11 P):=fun ⟨_,_,_,_⟩ _ ⟨I,μ,h0,hI⟩=>⟨apT _ I,apT _ μ,h0,fun ⟨_,_,_,_⟩ _ h=>hI _ _ _ _  h⟩
abbrev k3:Sk:=[(0,.v),(3,.v)]
def o12:=O 28
def B12 (P:PT):Y k3:=fun x0 x3 H=>
  L2 P x0 x3 0 H
theorem q12 P:Q o12 (E k1 (L2 P)) k3 (B12 P):=fun _ _ _ _=>by kernel_rfl
abbrev k4:Sk:=[(0,.v)]
def o13:=O 6
def B13 (P:PT):Y k4:=fun x0 H=>
  newK H [] 84 (fun b1 H2=>B12 P x0 (Value.slice (some ⟨b1,0,none⟩) 0 (0+1)) H2)
theorem q13 P:Q o13 (E k3 (B12 P)) k4 (B13 P):=fun _ _ _=>by kernel_rfl
def o14:=O 2
def B14 (P:PT):Y k4:=fun x0 H=>
  B13 P x0 H
theorem q14 P:Q o14 (E k4 (B13 P)) k4 (B14 P):=fun _ _ _=>by kernel_rfl
def code:Code:=(.seq (R 0 o14) (.seq (R 1 o13) (.seq (.seq (R 2 o12) (.block 0 (.loop (.seq (.seq (R 3 o11) (.cond (.tmp 11) .skip (.exit 0))) (.seq (.block 1 (.seq (.region 5 ⟨o10⟩ true) (.seq (R 6 o9) (.seq (.block 2 (.loop (.seq (.seq (.region 7 ⟨o8⟩ true) (.cond (.tmp 53) .skip (.exit 2))) (.block 3 (.seq (R 8 o7) (R 9 o6)))))) (R 10 o4))))) (R 4 o3)))))) (.seq (R 11 o1) .ret))))
theorem body:Tryz.f118.body=some code:=by kernel_rfl
theorem main (P:PT):∀ env H,(En 69 k4 (B14 P)) env H→AW Tryz.prog T0 code env H (M (ret P)):=
  (r_seq (b (q14 P)) (r_seq (b (q13 P)) (r_seq (r_seq (b (q12 P)) (r_block (rL (l2 P) (fun N2=>(r_seq (r_seq (b (q11 P N2)) (r_cond rfl r_skip (r_exit (fun _ _ h=>h)))) (r_seq (r_block (r_seq (rD T0_ok mixed [(0,false),(1,false),(2,false),(3,false),(4,false),(5,false),(6,false),(7,false),(8,false),(9,false),(10,false),(11,false),(12,false),(13,false),(14,false),(15,false),(16,false),(17,false),(18,false),(19,false),(20,false),(21,false),(22,false),(23,false),(24,false),(25,false),(26,false),(27,false)] (by kernel_rfl) (q10 P N2)) (r_seq (b (q9 P N2)) (r_seq (r_block (rL (l5 P N2) (fun N5=>(r_seq (r_seq (rD T0_ok mixed [(0,false),(1,false),(2,false),(3,false),(4,false),(5,false),(6,false),(7,false),(8,false),(9,false),(10,false)] (by kernel_rfl) (q8 P N2 N5)) (r_cond rfl r_skip (r_exit (fun _ _ h=>h)))) (r_block (r_seq (b (q7 P N2 N5)) (b (q6 P N2 N5)))))))) (b (q4 P N2)))))) (b (q3 P N2)))))))) (r_seq (b (q1 P)) r_ret))))
theorem ac (P:PT) (x0:Value) (H:AHeap) (h:B14 P x0 H):AC Tryz.prog T0 118 [x0] H P:=
  r_fn T0_ok (c:=code) (n:=69) Tryz.func118 body (by kernel_rfl) (main P) (En_mk (x0,()) (by kernel_rfl) ⟨by kernel_rfl,trivial⟩ h)

end F118
namespace F119
abbrev E:=En 19
abbrev Q:=QB Tryz.prog T0 19
def O (k:Nat):=ob Tryz.f119 (pth k)
def ret (P:PT):EP:=retE T0 19 Tryz.f119 P
abbrev k0:Sk:=[]
def o1:=O 14
def B1 (P:PT):Y k0:=fun H=>
  P (Value.int .i64 (-1)) H
theorem q1 P:Q o1 (ret P) k0 (B1 P):=fun _ _=>by kernel_rfl
abbrev k1:Sk:=[(0,.v),(1,.v),(7,J),(8,J)]
def o3:=O 423
def B3 (P:PT) (N2:Y k1):Y k1:=fun x0 x1 x7 x8 H=>
  N2 x0 x1 x7 (IntKind.i64.wrap (x8+1)) H
theorem q3 P N2:Q o3 (E k1 N2) k1 (B3 P N2):=fun _ _ _ _ _ _=>by kernel_rfl
abbrev k2:Sk:=[(5,J)]
def o4:=O 13516
def B4 (P:PT) (N2:Y k1):Y k2:=fun x5 H=>
  P (Value.int .i64 x5) H
theorem q4 P N2:Q o4 (ret P) k2 (B4 P N2):=fun _ _ _=>by kernel_rfl
abbrev k3:Sk:=[(0,.v),(1,.v),(5,J),(7,J),(8,J)]
def o5:=O 3378
def B5 (P:PT) (N2:Y k1):Y k3:=fun x0 x1 x5 x7 x8 H=>
  idxK x0 x5 2 (fun b1 o2=>ldI .i64 H b1 o2 (fun v3=>ldI .i64 H b1 (o2+1) (fun v4=>callV Tryz.prog T0 x1 [(Value.agg ⟨[(Value.int .i64 v3),(Value.int .i64 v4)]⟩)] H (fun v5 H6=>asB v5 (fun v7=>pif v7 (B4 P N2 x5 H6) (B3 P N2 x0 x1 x7 x8 H6))))))
theorem q5 P N2:Q o5 (cnd 16 (E k2 (B4 P N2)) (E k1 (B3 P N2))) k3 (B5 P N2):=fun _ _ _ _ _ _ _=>by kernel_rfl
def o6:=O 1688
def B6 (P:PT) (N2:Y k1):Y k1:=fun x0 x1 x7 x8 H=>
  B5 P N2 x0 x1 x8 x7 x8 H
theorem q6 P N2:Q o6 (E k3 (B5 P N2)) k1 (B6 P N2):=fun _ _ _ _ _ _=>by kernel_rfl
def o7:=O 104
def B7 (P:PT) (N2:Y k1):Y k1:=fun x0 x1 x7 x8 H=>
  pif (decide ((x8:Int)<x7)) (B6 P N2 x0 x1 x7 x8 H) (B1 P H)
theorem q7 P N2:Q o7 (cnd 9 (E k1 (B6 P N2)) (E k0 (B1 P))) k1 (B7 P N2):=fun _ _ _ _ _ _=>by kernel_rfl
def L2 (P:PT):Y k1:=fun x0 x1 x7 x8 H=>
  ∃ (I:Y k1) (μ:NTy k1 (AHeap→Nat)),I x0 x1 x7 x8 H∧∀ y0 y1 y7 y8 G,I y0 y1 y7 y8 G→B7 P (fun z0 z1 z7 z8 G'=>I z0 z1 z7 z8 G'∧μ z0 z1 z7 z8 G'<μ y0 y1 y7 y8 G) y0 y1 y7 y8 G
theorem l2 P:LQ k1 (L2 P) (B7 P):=fun ⟨_,_,_,_,_⟩ _ ⟨I,μ,h0,hI⟩=>⟨apT _ I,apT _ μ,h0,fun ⟨_,_,_,_,_⟩ _ h=>hI _ _ _ _ _  h⟩
abbrev k4:Sk:=[(0,.v),(1,.v)]
def o8:=O 12
def B8 (P:PT):Y k4:=fun x0 x1 H=>
  lenK x0 (fun n1=>L2 P x0 x1 (n1:Int) 0 H)
theorem q8 P:Q o8 (E k1 (L2 P)) k4 (B8 P):=fun _ _ _ _=>by kernel_rfl
def o9:=O 2
def B9 (P:PT):Y k4:=fun x0 x1 H=>
  B8 P x0 x1 H
theorem q9 P:Q o9 (E k4 (B8 P)) k4 (B9 P):=fun _ _ _ _=>by kernel_rfl
def code:Code:=(.seq (R 0 o9) (.seq (.seq (R 1 o8) (.block 0 (.loop (.seq (R 2 o7) (.seq (.cond (.tmp 9) .skip (.exit 0)) (.seq (.block 1 (.seq (R 3 o6) (.seq (R 4 o5) (.cond (.tmp 16) (.seq (R 5 o4) .ret) .skip)))) (R 6 o3))))))) (.seq (R 7 o1) .ret)))
theorem body:Tryz.f119.body=some code:=by kernel_rfl
theorem main (P:PT):∀ env H,(En 19 k4 (B9 P)) env H→AW Tryz.prog T0 code env H (M (ret P)):=
  (r_seq (b (q9 P)) (r_seq (r_seq (b (q8 P)) (r_block (rL (l2 P) (fun N2=>(r_seq (b (q7 P N2)) (r_seq (r_cond rfl r_skip (r_exit (fun _ _ h=>h))) (r_seq (r_block (r_seq (b (q6 P N2)) (r_seq (b (q5 P N2)) (r_cond rfl (r_seq (b (q4 P N2)) r_ret) r_skip)))) (b (q3 P N2))))))))) (r_seq (b (q1 P)) r_ret)))
theorem ac (P:PT) (x0 x1:Value) (H:AHeap) (h:B9 P x0 x1 H):AC Tryz.prog T0 119 [x0,x1] H P:=
  r_fn T0_ok (c:=code) (n:=19) Tryz.func119 body (by kernel_rfl) (main P) (En_mk (x0,x1,()) (by kernel_rfl) ⟨by kernel_rfl,by kernel_rfl,trivial⟩ h)

end F119
namespace F120
abbrev E:=En 20
abbrev Q:=QB Tryz.prog T0 20
def O (k:Nat):=ob Tryz.f120 (pth k)
def ret (P:PT):EP:=retE T0 20 Tryz.f120 P
abbrev k0:Sk:=[]
def o1:=O 510
def B1 (P:PT):Y k0:=fun H=>
  P (Value.int .i64 0) H
theorem q1 P:Q o1 (ret P) k0 (B1 P):=fun _ _=>by kernel_rfl
def o2:=O 2036
def B2 (P:PT):Y k0:=fun H=>
  P (Value.int .i64 1) H
theorem q2 P:Q o2 (ret P) k0 (B2 P):=fun _ _=>by kernel_rfl
abbrev k1:Sk:=[(0,J),(1,J)]
def o3:=O 508
def B3 (P:PT):Y k1:=fun x0 x1 H=>
  pif (decide ((x0:Int)>x1)) (B2 P H) (B1 P H)
theorem q3 P:Q o3 (cnd 19 (E k0 (B2 P)) (E k0 (B1 P))) k1 (B3 P):=fun _ _ _ _=>by kernel_rfl
def o4:=O 1012
def B4 (P:PT):Y k0:=fun H=>
  P (Value.int .i64 (-1)) H
theorem q4 P:Q o4 (ret P) k0 (B4 P):=fun _ _=>by kernel_rfl
def o5:=O 252
def B5 (P:PT):Y k1:=fun x0 x1 H=>
  pif (decide ((x0:Int)<x1)) (B4 P H) (B3 P x0 x1 H)
theorem q5 P:Q o5 (cnd 16 (E k0 (B4 P)) (E k1 (B3 P))) k1 (B5 P):=fun _ _ _ _=>by kernel_rfl
def o6:=O 500
def B6 (P:PT):Y k0:=fun H=>
  P (Value.int .i64 1) H
theorem q6 P:Q o6 (ret P) k0 (B6 P):=fun _ _=>by kernel_rfl
abbrev k2:Sk:=[(0,J),(1,J),(6,.b)]
def o7:=O 124
def B7 (P:PT):Y k2:=fun x0 x1 x6 H=>
  pif x6 (B6 P H) (B5 P x0 x1 H)
theorem q7 P:Q o7 (cnd 13 (E k0 (B6 P)) (E k1 (B5 P))) k2 (B7 P):=fun _ _ _ _ _=>by kernel_rfl
def o8:=O 490
def B8 (P:PT):Y k0:=fun H=>
  P (Value.int .i64 (-1)) H
theorem q8 P:Q o8 (ret P) k0 (B8 P):=fun _ _=>by kernel_rfl
def o9:=O 1956
def B9 (P:PT):Y k0:=fun H=>
  P (Value.int .i64 0) H
theorem q9 P:Q o9 (ret P) k0 (B9 P):=fun _ _=>by kernel_rfl
abbrev k3:Sk:=[(6,.b)]
def o10:=O 488
def B10 (P:PT):Y k3:=fun x6 H=>
  pif x6 (B9 P H) (B8 P H)
theorem q10 P:Q o10 (cnd 12 (E k0 (B9 P)) (E k0 (B8 P))) k3 (B10 P):=fun _ _ _=>by kernel_rfl
abbrev k4:Sk:=[(0,J),(1,J),(5,.b),(6,.b)]
def o11:=O 60
def B11 (P:PT):Y k4:=fun x0 x1 x5 x6 H=>
  pif x5 (B10 P x6 H) (B7 P x0 x1 x6 H)
theorem q11 P:Q o11 (cnd 11 (E k3 (B10 P)) (E k2 (B7 P))) k4 (B11 P):=fun _ _ _ _ _ _=>by kernel_rfl
abbrev k5:Sk:=[(0,J),(1,J),(5,.b)]
def o12:=O 14
def B12 (P:PT):Y k5:=fun x0 x1 x5 H=>
  AC Tryz.prog T0 125 [(Value.int .i64 x1)] H (fun v1 H2=>asB v1 (fun v3=>B11 P x0 x1 x5 v3 H2))
theorem q12 P:Q o12 (E k4 (B11 P)) k5 (B12 P):=fun _ _ _ _ _=>by kernel_rfl
def o13:=O 6
def B13 (P:PT):Y k1:=fun x0 x1 H=>
  AC Tryz.prog T0 125 [(Value.int .i64 x0)] H (fun v1 H2=>asB v1 (fun v3=>B12 P x0 x1 v3 H2))
theorem q13 P:Q o13 (E k5 (B12 P)) k1 (B13 P):=fun _ _ _ _=>by kernel_rfl
def o14:=O 2
def B14 (P:PT):Y k1:=fun x0 x1 H=>
  B13 P x0 x1 H
theorem q14 P:Q o14 (E k1 (B13 P)) k1 (B14 P):=fun _ _ _ _=>by kernel_rfl
def code:Code:=(.seq (R 0 o14) (.seq (R 1 o13) (.seq (R 2 o12) (.seq (.seq (R 3 o11) (.cond (.tmp 11) (.seq (.seq (R 4 o10) (.cond (.tmp 12) (.seq (R 5 o9) .ret) .skip)) (.seq (R 6 o8) .ret)) .skip)) (.seq (.seq (R 7 o7) (.cond (.tmp 13) (.seq (R 8 o6) .ret) .skip)) (.seq (.seq (R 9 o5) (.cond (.tmp 16) (.seq (R 10 o4) .ret) .skip)) (.seq (.seq (R 11 o3) (.cond (.tmp 19) (.seq (R 12 o2) .ret) .skip)) (.seq (R 13 o1) .ret))))))))
theorem body:Tryz.f120.body=some code:=by kernel_rfl
theorem main (P:PT):∀ env H,(En 20 k1 (B14 P)) env H→AW Tryz.prog T0 code env H (M (ret P)):=
  (r_seq (b (q14 P)) (r_seq (b (q13 P)) (r_seq (b (q12 P)) (r_seq (r_seq (b (q11 P)) (r_cond rfl (r_seq (r_seq (b (q10 P)) (r_cond rfl (r_seq (b (q9 P)) r_ret) r_skip)) (r_seq (b (q8 P)) r_ret)) r_skip)) (r_seq (r_seq (b (q7 P)) (r_cond rfl (r_seq (b (q6 P)) r_ret) r_skip)) (r_seq (r_seq (b (q5 P)) (r_cond rfl (r_seq (b (q4 P)) r_ret) r_skip)) (r_seq (r_seq (b (q3 P)) (r_cond rfl (r_seq (b (q2 P)) r_ret) r_skip)) (r_seq (b (q1 P)) r_ret))))))))
theorem ac (P:PT) (x0 x1:Int) (H:AHeap) (h:B14 P x0 x1 H):AC Tryz.prog T0 120 [(Value.int .i64 x0),(Value.int .i64 x1)] H P:=
  r_fn T0_ok (c:=code) (n:=20) Tryz.func120 body (by kernel_rfl) (main P) (En_mk (x0,x1,()) (by kernel_rfl) ⟨by kernel_rfl,by kernel_rfl,trivial⟩ h)

end F120
namespace F121
abbrev E:=En 9
abbrev Q:=QB Tryz.prog T0 9
def O (k:Nat):=ob Tryz.f121 (pth k)
def ret (P:PT):EP:=retE T0 9 Tryz.f121 P
abbrev k0:Sk:=[(0,.v),(1,.v)]
def o1:=O 6
def B1 (P:PT):Y k0:=fun x0 x1 H=>
  AC Tryz.prog T0 126 [x0,x1] H (fun v1 H2=>asI .i64 v1 (fun v3=>P (Value.bool (decide ((v3:Int)≥0))) H2))
theorem q1 P:Q o1 (ret P) k0 (B1 P):=fun _ _ _ _=>by kernel_rfl
def o2:=O 2
def B2 (P:PT):Y k0:=fun x0 x1 H=>
  B1 P x0 x1 H
theorem q2 P:Q o2 (E k0 (B1 P)) k0 (B2 P):=fun _ _ _ _=>by kernel_rfl
def code:Code:=(.seq (R 0 o2) (.seq (R 1 o1) .ret))
theorem body:Tryz.f121.body=some code:=by kernel_rfl
theorem main (P:PT):∀ env H,(En 9 k0 (B2 P)) env H→AW Tryz.prog T0 code env H (M (ret P)):=
  (r_seq (b (q2 P)) (r_seq (b (q1 P)) r_ret))
theorem ac (P:PT) (x0 x1:Value) (H:AHeap) (h:B2 P x0 x1 H):AC Tryz.prog T0 121 [x0,x1] H P:=
  r_fn T0_ok (c:=code) (n:=9) Tryz.func121 body (by kernel_rfl) (main P) (En_mk (x0,x1,()) (by kernel_rfl) ⟨by kernel_rfl,by kernel_rfl,trivial⟩ h)

end F121
namespace F122
abbrev E:=En 8
abbrev Q:=QB Tryz.prog T0 8
def O (k:Nat):=ob Tryz.f122 (pth k)
def ret (P:PT):EP:=retE T0 8 Tryz.f122 P
abbrev k0:Sk:=[(0,J),(1,.v)]
def o1:=O 6
def B1 (P:PT):Y k0:=fun x0 x1 H=>
  asP x1 (fun b1 o2=>ld1 H b1 o2 (fun v3=>callV Tryz.prog T0 v3 [(Value.int .i64 x0)] H (fun v4 H5=>asB v4 (fun v6=>P (Value.bool (!v6)) H5))))
theorem q1 P:Q o1 (ret P) k0 (B1 P):=fun _ _ _ _=>by kernel_rfl
def o2:=O 2
def B2 (P:PT):Y k0:=fun x0 x1 H=>
  B1 P x0 x1 H
theorem q2 P:Q o2 (E k0 (B1 P)) k0 (B2 P):=fun _ _ _ _=>by kernel_rfl
def code:Code:=(.seq (R 0 o2) (.seq (R 1 o1) .ret))
theorem body:Tryz.f122.body=some code:=by kernel_rfl
theorem main (P:PT):∀ env H,(En 8 k0 (B2 P)) env H→AW Tryz.prog T0 code env H (M (ret P)):=
  (r_seq (b (q2 P)) (r_seq (b (q1 P)) r_ret))
theorem ac (P:PT) (x0:Int) (x1:Value) (H:AHeap) (h:B2 P x0 x1 H):AC Tryz.prog T0 122 [(Value.int .i64 x0),x1] H P:=
  r_fn T0_ok (c:=code) (n:=8) Tryz.func122 body (by kernel_rfl) (main P) (En_mk (x0,x1,()) (by kernel_rfl) ⟨by kernel_rfl,by kernel_rfl,trivial⟩ h)

end F122
namespace F124
abbrev E:=En 51
abbrev Q:=QB Tryz.prog T0 51
def O (k:Nat):=ob Tryz.f124 (pth k)
def ret (P:PT):EP:=retE T0 51 Tryz.f124 P
abbrev k0:Sk:=[(0,.i .u64),(1,.i .u64),(4,.i .u64)]
def o1:=O 8190
def B1 (P:PT):Y k0:=fun x0 x1 x4 H=>
  P (Value.tuple ⟨[(Value.int .u64 x4),(Value.int .u64 (IntKind.u64.wrap (x0*x1)))]⟩) H
theorem q1 P:Q o1 (ret P) k0 (B1 P):=fun _ _ _ _ _=>by kernel_rfl
abbrev k1:Sk:=[(0,.i .u64),(1,.i .u64),(7,.i .u64),(9,.i .u64),(12,.i .u64),(13,.i .u64)]
def o2:=O 4094
def B2 (P:PT):Y k1:=fun x0 x1 x7 x9 x12 x13 H=>
  ((0:Int)≤32)∧(B1 P x0 x1 (IntKind.u64.wrap ((IntKind.u64.wrap ((IntKind.u64.wrap (x7*x9))+x13))+(Int.fdiv x12 (2^(min (Int.toNat 32) 64))))) H)
theorem q2 P:Q o2 (E k0 (B1 P)) k1 (B2 P):=fun _ _ _ _ _ _ _ _=>by kernel_rfl
abbrev k2:Sk:=[(0,.i .u64),(1,.i .u64),(6,.i .u64),(7,.i .u64),(9,.i .u64),(12,.i .u64),(13,.i .u64)]
def o3:=O 2046
def B3 (P:PT):Y k2:=fun x0 x1 x6 x7 x9 x12 x13 H=>
  B2 P x0 x1 x7 x9 (IntKind.u64.wrap (x12+(IntKind.u64.wrap (x6*x9)))) x13 H
theorem q3 P:Q o3 (E k1 (B2 P)) k2 (B3 P):=fun _ _ _ _ _ _ _ _ _=>by kernel_rfl
abbrev k3:Sk:=[(0,.i .u64),(1,.i .u64),(6,.i .u64),(7,.i .u64),(9,.i .u64),(11,.i .u64),(12,.i .u64)]
def o4:=O 1022
def B4 (P:PT):Y k3:=fun x0 x1 x6 x7 x9 x11 x12 H=>
  ((0:Int)≤32)∧(B3 P x0 x1 x6 x7 x9 x12 (Int.fdiv x11 (2^(min (Int.toNat 32) 64))) H)
theorem q4 P:Q o4 (E k2 (B3 P)) k3 (B4 P):=fun _ _ _ _ _ _ _ _ _=>by kernel_rfl
abbrev k4:Sk:=[(0,.i .u64),(1,.i .u64),(6,.i .u64),(7,.i .u64),(9,.i .u64),(11,.i .u64)]
def o5:=O 510
def B5 (P:PT):Y k4:=fun x0 x1 x6 x7 x9 x11 H=>
  B4 P x0 x1 x6 x7 x9 x11 (IntKind.u64.wrap (BitVec.ofInt 64 x11&&&BitVec.ofInt 64 4294967295).toNat) H
theorem q5 P:Q o5 (E k3 (B4 P)) k4 (B5 P):=fun _ _ _ _ _ _ _ _=>by kernel_rfl
abbrev k5:Sk:=[(0,.i .u64),(1,.i .u64),(6,.i .u64),(7,.i .u64),(8,.i .u64),(9,.i .u64),(10,.i .u64)]
def o6:=O 254
def B6 (P:PT):Y k5:=fun x0 x1 x6 x7 x8 x9 x10 H=>
  ((0:Int)≤32)∧(B5 P x0 x1 x6 x7 x9 (IntKind.u64.wrap ((IntKind.u64.wrap (x7*x8))+(Int.fdiv x10 (2^(min (Int.toNat 32) 64))))) H)
theorem q6 P:Q o6 (E k4 (B5 P)) k5 (B6 P):=fun _ _ _ _ _ _ _ _ _=>by kernel_rfl
abbrev k6:Sk:=[(0,.i .u64),(1,.i .u64),(6,.i .u64),(7,.i .u64),(8,.i .u64),(9,.i .u64)]
def o7:=O 126
def B7 (P:PT):Y k6:=fun x0 x1 x6 x7 x8 x9 H=>
  B6 P x0 x1 x6 x7 x8 x9 (IntKind.u64.wrap (x6*x8)) H
theorem q7 P:Q o7 (E k5 (B6 P)) k6 (B7 P):=fun _ _ _ _ _ _ _ _=>by kernel_rfl
abbrev k7:Sk:=[(0,.i .u64),(1,.i .u64),(6,.i .u64),(7,.i .u64),(8,.i .u64)]
def o8:=O 62
def B8 (P:PT):Y k7:=fun x0 x1 x6 x7 x8 H=>
  ((0:Int)≤32)∧(B7 P x0 x1 x6 x7 x8 (Int.fdiv x1 (2^(min (Int.toNat 32) 64))) H)
theorem q8 P:Q o8 (E k6 (B7 P)) k7 (B8 P):=fun _ _ _ _ _ _ _=>by kernel_rfl
abbrev k8:Sk:=[(0,.i .u64),(1,.i .u64),(6,.i .u64),(7,.i .u64)]
def o9:=O 30
def B9 (P:PT):Y k8:=fun x0 x1 x6 x7 H=>
  B8 P x0 x1 x6 x7 (IntKind.u64.wrap (BitVec.ofInt 64 x1&&&BitVec.ofInt 64 4294967295).toNat) H
theorem q9 P:Q o9 (E k7 (B8 P)) k8 (B9 P):=fun _ _ _ _ _ _=>by kernel_rfl
abbrev k9:Sk:=[(0,.i .u64),(1,.i .u64),(6,.i .u64)]
def o10:=O 14
def B10 (P:PT):Y k9:=fun x0 x1 x6 H=>
  ((0:Int)≤32)∧(B9 P x0 x1 x6 (Int.fdiv x0 (2^(min (Int.toNat 32) 64))) H)
theorem q10 P:Q o10 (E k8 (B9 P)) k9 (B10 P):=fun _ _ _ _ _=>by kernel_rfl
abbrev k10:Sk:=[(0,.i .u64),(1,.i .u64)]
def o11:=O 6
def B11 (P:PT):Y k10:=fun x0 x1 H=>
  B10 P x0 x1 (IntKind.u64.wrap (BitVec.ofInt 64 x0&&&BitVec.ofInt 64 4294967295).toNat) H
theorem q11 P:Q o11 (E k9 (B10 P)) k10 (B11 P):=fun _ _ _ _=>by kernel_rfl
def o12:=O 2
def B12 (P:PT):Y k10:=fun x0 x1 H=>
  B11 P x0 x1 H
theorem q12 P:Q o12 (E k10 (B11 P)) k10 (B12 P):=fun _ _ _ _=>by kernel_rfl
def code:Code:=(.seq (R 0 o12) (.seq (R 1 o11) (.seq (R 2 o10) (.seq (R 3 o9) (.seq (R 4 o8) (.seq (R 5 o7) (.seq (R 6 o6) (.seq (R 7 o5) (.seq (R 8 o4) (.seq (R 9 o3) (.seq (R 10 o2) (.seq (R 11 o1) .ret))))))))))))
theorem body:Tryz.f124.body=some code:=by kernel_rfl
theorem main (P:PT):∀ env H,(En 51 k10 (B12 P)) env H→AW Tryz.prog T0 code env H (M (ret P)):=
  (r_seq (b (q12 P)) (r_seq (b (q11 P)) (r_seq (b (q10 P)) (r_seq (b (q9 P)) (r_seq (b (q8 P)) (r_seq (b (q7 P)) (r_seq (b (q6 P)) (r_seq (b (q5 P)) (r_seq (b (q4 P)) (r_seq (b (q3 P)) (r_seq (b (q2 P)) (r_seq (b (q1 P)) r_ret))))))))))))
theorem ac (P:PT) (x0 x1:Int) (H:AHeap) (h:B12 P x0 x1 H):AC Tryz.prog T0 124 [(Value.int .u64 x0),(Value.int .u64 x1)] H P:=
  r_fn T0_ok (c:=code) (n:=51) Tryz.func124 body (by kernel_rfl) (main P) (En_mk (x0,x1,()) (by kernel_rfl) ⟨by kernel_rfl,by kernel_rfl,trivial⟩ h)

end F124
namespace F125
abbrev E:=En 6
abbrev Q:=QB Tryz.prog T0 6
def O (k:Nat):=ob Tryz.f125 (pth k)
def ret (P:PT):EP:=retE T0 6 Tryz.f125 P
abbrev k0:Sk:=[(0,J)]
def o1:=O 6
def B1 (P:PT):Y k0:=fun x0 H=>
  P (Value.bool ((x0:Int) != x0)) H
theorem q1 P:Q o1 (ret P) k0 (B1 P):=fun _ _ _=>by kernel_rfl
def o2:=O 2
def B2 (P:PT):Y k0:=fun x0 H=>
  B1 P x0 H
theorem q2 P:Q o2 (E k0 (B1 P)) k0 (B2 P):=fun _ _ _=>by kernel_rfl
def code:Code:=(.seq (R 0 o2) (.seq (R 1 o1) .ret))
theorem body:Tryz.f125.body=some code:=by kernel_rfl
theorem main (P:PT):∀ env H,(En 6 k0 (B2 P)) env H→AW Tryz.prog T0 code env H (M (ret P)):=
  (r_seq (b (q2 P)) (r_seq (b (q1 P)) r_ret))
theorem ac (P:PT) (x0:Int) (H:AHeap) (h:B2 P x0 H):AC Tryz.prog T0 125 [(Value.int .i64 x0)] H P:=
  r_fn T0_ok (c:=code) (n:=6) Tryz.func125 body (by kernel_rfl) (main P) (En_mk (x0,()) (by kernel_rfl) ⟨by kernel_rfl,trivial⟩ h)

end F125
namespace F126
abbrev E:=En 19
abbrev Q:=QB Tryz.prog T0 19
def O (k:Nat):=ob Tryz.f126 (pth k)
def ret (P:PT):EP:=retE T0 19 Tryz.f126 P
abbrev k0:Sk:=[]
def o1:=O 14
def B1 (P:PT):Y k0:=fun H=>
  P (Value.int .i64 (-1)) H
theorem q1 P:Q o1 (ret P) k0 (B1 P):=fun _ _=>by kernel_rfl
abbrev k1:Sk:=[(0,.v),(1,.v),(7,J),(8,J)]
def o3:=O 423
def B3 (P:PT) (N2:Y k1):Y k1:=fun x0 x1 x7 x8 H=>
  N2 x0 x1 x7 (IntKind.i64.wrap (x8+1)) H
theorem q3 P N2:Q o3 (E k1 N2) k1 (B3 P N2):=fun _ _ _ _ _ _=>by kernel_rfl
abbrev k2:Sk:=[(5,J)]
def o4:=O 13516
def B4 (P:PT) (N2:Y k1):Y k2:=fun x5 H=>
  P (Value.int .i64 x5) H
theorem q4 P N2:Q o4 (ret P) k2 (B4 P N2):=fun _ _ _=>by kernel_rfl
abbrev k3:Sk:=[(0,.v),(1,.v),(5,J),(7,J),(8,J)]
def o5:=O 3378
def B5 (P:PT) (N2:Y k1):Y k3:=fun x0 x1 x5 x7 x8 H=>
  idxK x0 x5 1 (fun b1 o2=>ldI .i64 H b1 o2 (fun v3=>callV Tryz.prog T0 x1 [(Value.int .i64 v3)] H (fun v4 H5=>asB v4 (fun v6=>pif v6 (B4 P N2 x5 H5) (B3 P N2 x0 x1 x7 x8 H5)))))
theorem q5 P N2:Q o5 (cnd 16 (E k2 (B4 P N2)) (E k1 (B3 P N2))) k3 (B5 P N2):=fun _ _ _ _ _ _ _=>by kernel_rfl
def o6:=O 1688
def B6 (P:PT) (N2:Y k1):Y k1:=fun x0 x1 x7 x8 H=>
  B5 P N2 x0 x1 x8 x7 x8 H
theorem q6 P N2:Q o6 (E k3 (B5 P N2)) k1 (B6 P N2):=fun _ _ _ _ _ _=>by kernel_rfl
def o7:=O 104
def B7 (P:PT) (N2:Y k1):Y k1:=fun x0 x1 x7 x8 H=>
  pif (decide ((x8:Int)<x7)) (B6 P N2 x0 x1 x7 x8 H) (B1 P H)
theorem q7 P N2:Q o7 (cnd 9 (E k1 (B6 P N2)) (E k0 (B1 P))) k1 (B7 P N2):=fun _ _ _ _ _ _=>by kernel_rfl
def L2 (P:PT):Y k1:=fun x0 x1 x7 x8 H=>
  ∃ (I:Y k1) (μ:NTy k1 (AHeap→Nat)),I x0 x1 x7 x8 H∧∀ y0 y1 y7 y8 G,I y0 y1 y7 y8 G→B7 P (fun z0 z1 z7 z8 G'=>I z0 z1 z7 z8 G'∧μ z0 z1 z7 z8 G'<μ y0 y1 y7 y8 G) y0 y1 y7 y8 G
theorem l2 P:LQ k1 (L2 P) (B7 P):=fun ⟨_,_,_,_,_⟩ _ ⟨I,μ,h0,hI⟩=>⟨apT _ I,apT _ μ,h0,fun ⟨_,_,_,_,_⟩ _ h=>hI _ _ _ _ _  h⟩
abbrev k4:Sk:=[(0,.v),(1,.v)]
def o8:=O 12
def B8 (P:PT):Y k4:=fun x0 x1 H=>
  lenK x0 (fun n1=>L2 P x0 x1 (n1:Int) 0 H)
theorem q8 P:Q o8 (E k1 (L2 P)) k4 (B8 P):=fun _ _ _ _=>by kernel_rfl
def o9:=O 2
def B9 (P:PT):Y k4:=fun x0 x1 H=>
  B8 P x0 x1 H
theorem q9 P:Q o9 (E k4 (B8 P)) k4 (B9 P):=fun _ _ _ _=>by kernel_rfl
def code:Code:=(.seq (R 0 o9) (.seq (.seq (R 1 o8) (.block 0 (.loop (.seq (R 2 o7) (.seq (.cond (.tmp 9) .skip (.exit 0)) (.seq (.block 1 (.seq (R 3 o6) (.seq (R 4 o5) (.cond (.tmp 16) (.seq (R 5 o4) .ret) .skip)))) (R 6 o3))))))) (.seq (R 7 o1) .ret)))
theorem body:Tryz.f126.body=some code:=by kernel_rfl
theorem main (P:PT):∀ env H,(En 19 k4 (B9 P)) env H→AW Tryz.prog T0 code env H (M (ret P)):=
  (r_seq (b (q9 P)) (r_seq (r_seq (b (q8 P)) (r_block (rL (l2 P) (fun N2=>(r_seq (b (q7 P N2)) (r_seq (r_cond rfl r_skip (r_exit (fun _ _ h=>h))) (r_seq (r_block (r_seq (b (q6 P N2)) (r_seq (b (q5 P N2)) (r_cond rfl (r_seq (b (q4 P N2)) r_ret) r_skip)))) (b (q3 P N2))))))))) (r_seq (b (q1 P)) r_ret)))
theorem ac (P:PT) (x0 x1:Value) (H:AHeap) (h:B9 P x0 x1 H):AC Tryz.prog T0 126 [x0,x1] H P:=
  r_fn T0_ok (c:=code) (n:=19) Tryz.func126 body (by kernel_rfl) (main P) (En_mk (x0,x1,()) (by kernel_rfl) ⟨by kernel_rfl,by kernel_rfl,trivial⟩ h)

end F126
end
end Go.Proofs
