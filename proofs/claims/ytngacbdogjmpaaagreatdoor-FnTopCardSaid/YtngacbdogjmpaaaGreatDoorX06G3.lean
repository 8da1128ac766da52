import Derived.Test.YtngacbdogjmpaaaGreatDoorX06S
set_option linter.unusedVariables false
set_option maxRecDepth 100000
namespace Go.Proofs
open Go.Abs
open Value IntKind
noncomputable section
namespace F216
abbrev E:=En 53
def O (k:Nat):=ob Tryz.f216 (pth k)
abbrev R (i k:Nat):Code:=.region i ⟨O k⟩ false
def ret (P:PT):EP:=retE T0 53 Tryz.f216 P
abbrev k0:Sk:=[(0,.v),(1,J),(2,J),(3,.v),(8,J)]
def o2:=O 51
def B2 (P:PT) (N1:Y k0):Y k0:=fun x0 x1 x2 x3 x8 H=>
  N1 x0 x1 x2 x3 (i64.wrap (x8+1)) H
abbrev k1:Sk:=[(0,.v),(1,J),(2,J),(3,.v),(8,J),(9,J)]
def B4 (P:PT) (N1:Y k0) (N3:Y k1):Y k1:=fun x0 x1 x2 x3 x8 x9 H=>
  N3 x0 x1 x2 x3 x8 (i64.wrap (x9-1)) H
def o5:=O 6436
def B5 (P:PT) (N1:Y k0) (N3:Y k1):Y k1:=fun x0 x1 x2 x3 x8 x9 H=>
  idxK x0 (i64.wrap (x9-1)) 2 (fun b1 o2=>li H b1 o2 (fun v3=>li H b1 (o2+1) (fun v4=>idxK x0 x9 2 (fun b5 o6=>li H b5 o6 (fun v7=>li H b5 (o6+1) (fun v8=>idxK x0 x9 2 (fun b9 o10=>stK H b9 o10 [(I v3),(I v4)] (fun H11=>idxK x0 (i64.wrap (x9-1)) 2 (fun b12 o13=>stK H11 b12 o13 [(I v7),(I v8)] (fun H14=>B4 P N1 N3 x0 x1 x2 x3 x8 x9 H14))))))))))
theorem q5 (P:PT) (N1:Y k0) (N3:Y k1):QD Tryz.prog T0 53 o5 [(0,false),(1,false),(2,false),(3,false),(4,false),(5,false),(6,false),(7,false),(8,false),(9,false),(10,false),(11,false),(12,false),(13,false),(14,false),(15,false),(16,false),(17,false)] (En 53 k1 (B4 P N1 N3)) k1 (B5 P N1 N3):=fun _ _ _ _ _ _ _ _  => by kernel_rfl
def o6:=O 3216
def B6 (P:PT) (N1:Y k0) (N3:Y k1):Y k1:=fun x0 x1 x2 x3 x8 x9 H=>
  pif (decide ((x9:Int)>x1)) (idxK x0 x9 2 (fun b1 o2=>li H b1 o2 (fun v3=>li H b1 (o2+1) (fun v4=>idxK x0 (i64.wrap (x9-1)) 2 (fun b5 o6=>li H b5 o6 (fun v7=>li H b5 (o6+1) (fun v8=>callV Tryz.prog T0 x3 [(agg ⟨[(I v3),(I v4)]⟩),(agg ⟨[(I v7),(I v8)]⟩)] H (fun v9 H10=>asI .i64 v9 (fun v11=>pif (decide ((v11:Int)<0)) (B5 P N1 N3 x0 x1 x2 x3 x8 x9 H10) (B2 P N1 x0 x1 x2 x3 x8 H10)))))))))) (B2 P N1 x0 x1 x2 x3 x8 H)
theorem q6 (P:PT) (N1:Y k0) (N3:Y k1):QD Tryz.prog T0 53 o6 [(0,false),(1,false),(2,false),(3,false),(4,false),(5,false),(6,false),(7,false),(8,false),(9,false),(10,false),(11,false),(12,false),(13,false),(14,false),(15,false),(16,false)] (cnd 34 (En 53 k1 (B5 P N1 N3)) (En 53 k0 (B2 P N1))) k1 (B6 P N1 N3):=fun _ _ _ _ _ _ _ _  => by kernel_rfl
def L3 (P:PT) (N1:Y k0):Y k1:=fun x0 x1 x2 x3 x8 x9 H=>
  ∃ (I:Y k1) (μ:NTy k1 (AHeap→Nat)),I x0 x1 x2 x3 x8 x9 H∧∀ y0 y1 y2 y3 y8 y9 G,I y0 y1 y2 y3 y8 y9 G→B6 P N1 (fun z0 z1 z2 z3 z8 z9 G'=>I z0 z1 z2 z3 z8 z9 G'∧μ z0 z1 z2 z3 z8 z9 G'<μ y0 y1 y2 y3 y8 y9 G) y0 y1 y2 y3 y8 y9 G
theorem l3 P N1:LQ k1 (L3 P N1) (B6 P N1):=fun ⟨_,_,_,_,_,_,_⟩ _ ⟨I,μ,h0,hI⟩=>⟨apT _ I,apT _ μ,h0,fun ⟨_,_,_,_,_,_,_⟩ _ h=>hI _ _ _ _ _ _ _  h⟩
def B7 (P:PT) (N1:Y k0):Y k0:=fun x0 x1 x2 x3 x8 H=>
  L3 P N1 x0 x1 x2 x3 x8 x8 H
def B8 (P:PT) (N1:Y k0):Y k0:=fun x0 x1 x2 x3 x8 H=>
  pif (decide ((x8:Int)<x2)) (B7 P N1 x0 x1 x2 x3 x8 H) (P (tuple ⟨[]⟩) H)
def L1 (P:PT):Y k0:=fun x0 x1 x2 x3 x8 H=>
  ∃ (I:Y k0) (μ:NTy k0 (AHeap→Nat)),I x0 x1 x2 x3 x8 H∧∀ y0 y1 y2 y3 y8 G,I y0 y1 y2 y3 y8 G→B8 P (fun z0 z1 z2 z3 z8 G'=>I z0 z1 z2 z3 z8 G'∧μ z0 z1 z2 z3 z8 G'<μ y0 y1 y2 y3 y8 G) y0 y1 y2 y3 y8 G
theorem l1 P:LQ k0 (L1 P) (B8 P):=fun ⟨_,_,_,_,_,_⟩ _ ⟨I,μ,h0,hI⟩=>⟨apT _ I,apT _ μ,h0,fun ⟨_,_,_,_,_,_⟩ _ h=>hI _ _ _ _ _ _  h⟩
abbrev k2:Sk:=[(0,.v),(1,J),(2,J),(3,.v)]
def B9 (P:PT):Y k2:=fun x0 x1 x2 x3 H=>
  L1 P x0 x1 x2 x3 (i64.wrap (x1+1)) H
def code:Code:=(.seq (R 0 2) (.block 0 (.loop (.seq (.seq (R 1 48) (.cond (.tmp 14) .skip (.exit 0))) (.seq (.block 1 (.seq (R 3 200) (.block 2 (.loop (.seq (.seq (.region 4 ⟨o6⟩ true) (.cond (.tmp 34) .skip (.exit 2))) (.seq (.block 3 (.region 6 ⟨o5⟩ true)) (R 5 3219))))))) (R 2 51))))))
theorem body:Tryz.f216.body=some code:=by kernel_rfl
theorem main P:Z 53 k2 (B9 P) code (ret P):=
  (r_seq (b (E k0 (L1 P))) (r_block (rL (l1 P) (fun N1=>(r_seq (r_seq (b (cnd 14 (E k0 (B7 P N1)) (ret P))) (r_cond rfl r_skip (r_exit (fun _ _ h=>h)))) (r_seq (r_block (r_seq (b (E k1 (L3 P N1))) (r_block (rL (l3 P N1) (fun N3=>(r_seq (r_seq (rD T0_ok mixed [(0,false),(1,false),(2,false),(3,false),(4,false),(5,false),(6,false),(7,false),(8,false),(9,false),(10,false),(11,false),(12,false),(13,false),(14,false),(15,false),(16,false)] (by kernel_rfl) (q6 P N1 N3)) (r_cond rfl r_skip (r_exit (fun _ _ h=>h)))) (r_seq (r_block (rD T0_ok mixed [(0,false),(1,false),(2,false),(3,false),(4,false),(5,false),(6,false),(7,false),(8,false),(9,false),(10,false),(11,false),(12,false),(13,false),(14,false),(15,false),(16,false),(17,false)] (by kernel_rfl) (q5 P N1 N3))) (b (E k1 N3))))))))) (b (E k0 N1))))))))
theorem ac (P:PT) (x0:Value) (x1 x2:Int) (x3:Value) (H:AHeap) (h:B9 P x0 x1 x2 x3 H):A 216 [x0,(I x1),(I x2),x3] H P:=
  r_fn T0_ok (c:=code) (n:=53) Tryz.func216 body (by kernel_rfl) (main P) (En_mk (x0,x1,x2,x3,()) (by kernel_rfl) ⟨by kernel_rfl,by kernel_rfl,by kernel_rfl,by kernel_rfl,trivial⟩ h)

end F216
namespace F217
abbrev E:=En 60
def O (k:Nat):=ob Tryz.f217 (pth k)
abbrev R (i k:Nat):Code:=.region i ⟨O k⟩ false
def ret (P:PT):EP:=retE T0 60 Tryz.f217 P
abbrev k0:Sk:=[(0,.v),(3,.v),(8,J),(9,J),(12,J)]
def o2:=O 1011
def B2 (P:PT) (N1:Y k0):Y k0:=fun x0 x3 x8 x9 x12 H=>
  N1 x0 x3 x8 x9 (i64.wrap (x12-1)) H
def B3 (P:PT) (N1:Y k0):Y k0:=fun x0 x3 x8 x9 x12 H=>
  A 227 [x0,(I x9),(I x12),(I x8),x3] H (fun v1 H2=>asTup v1 (fun l3=>B2 P N1 x0 x3 x8 x9 x12 H2))
def o4:=O 4040
def B4 (P:PT) (N1:Y k0):Y k0:=fun x0 x3 x8 x9 x12 H=>
  idxK x0 (i64.wrap (x8+x12)) 2 (fun b1 o2=>li H b1 o2 (fun v3=>li H b1 (o2+1) (fun v4=>idxK x0 x8 2 (fun b5 o6=>li H b5 o6 (fun v7=>li H b5 (o6+1) (fun v8=>idxK x0 x8 2 (fun b9 o10=>stK H b9 o10 [(I v3),(I v4)] (fun H11=>idxK x0 (i64.wrap (x8+x12)) 2 (fun b12 o13=>stK H11 b12 o13 [(I v7),(I v8)] (fun H14=>B3 P N1 x0 x3 x8 x9 x12 H14))))))))))
theorem q4 (P:PT) (N1:Y k0):QD Tryz.prog T0 60 o4 [(0,false),(1,false),(2,false),(3,false),(4,false),(5,false),(6,false),(7,false),(8,false),(9,false),(10,false),(11,false),(12,false),(13,false),(14,false),(15,false),(16,false),(17,false),(18,false),(19,false)] (En 60 k0 (B3 P N1)) k0 (B4 P N1):=fun _ _ _ _ _ _ _  => by kernel_rfl
def B5 (P:PT) (N1:Y k0):Y k0:=fun x0 x3 x8 x9 x12 H=>
  pif (decide ((x12:Int)≥0)) (B4 P N1 x0 x3 x8 x9 x12 H) (P (tuple ⟨[]⟩) H)
def L1 (P:PT):Y k0:=fun x0 x3 x8 x9 x12 H=>
  ∃ (I:Y k0) (μ:NTy k0 (AHeap→Nat)),I x0 x3 x8 x9 x12 H∧∀ y0 y3 y8 y9 y12 G,I y0 y3 y8 y9 y12 G→B5 P (fun z0 z3 z8 z9 z12 G'=>I z0 z3 z8 z9 z12 G'∧μ z0 z3 z8 z9 z12 G'<μ y0 y3 y8 y9 y12 G) y0 y3 y8 y9 y12 G
theorem l1 P:LQ k0 (L1 P) (B5 P):=fun ⟨_,_,_,_,_,_⟩ _ ⟨I,μ,h0,hI⟩=>⟨apT _ I,apT _ μ,h0,fun ⟨_,_,_,_,_,_⟩ _ h=>hI _ _ _ _ _ _  h⟩
abbrev k1:Sk:=[(0,.v),(3,.v),(8,J),(9,J),(10,J)]
def o6:=O 62
def B6 (P:PT):Y k1:=fun x0 x3 x8 x9 x10 H=>
  L1 P x0 x3 x8 x9 (i64.wrap (x10-1)) H
abbrev k2:Sk:=[(0,.v),(3,.v),(8,J),(9,J),(10,J),(11,J)]
def B8 (P:PT) (N7:Y k2):Y k2:=fun x0 x3 x8 x9 x10 x11 H=>
  N7 x0 x3 x8 x9 x10 (i64.wrap (x11-1)) H
def B9 (P:PT) (N7:Y k2):Y k2:=fun x0 x3 x8 x9 x10 x11 H=>
  A 227 [x0,(I x11),(I x10),(I x8),x3] H (fun v1 H2=>asTup v1 (fun l3=>B8 P N7 x0 x3 x8 x9 x10 x11 H2))
def o10:=O 976
def B10 (P:PT) (N7:Y k2):Y k2:=fun x0 x3 x8 x9 x10 x11 H=>
  pif (decide ((x11:Int)≥0)) (B9 P N7 x0 x3 x8 x9 x10 x11 H) (B6 P x0 x3 x8 x9 x10 H)
def L7 (P:PT):Y k2:=fun x0 x3 x8 x9 x10 x11 H=>
  ∃ (I:Y k2) (μ:NTy k2 (AHeap→Nat)),I x0 x3 x8 x9 x10 x11 H∧∀ y0 y3 y8 y9 y10 y11 G,I y0 y3 y8 y9 y10 y11 G→B10 P (fun z0 z3 z8 z9 z10 z11 G'=>I z0 z3 z8 z9 z10 z11 G'∧μ z0 z3 z8 z9 z10 z11 G'<μ y0 y3 y8 y9 y10 y11 G) y0 y3 y8 y9 y10 y11 G
theorem l7 P:LQ k2 (L7 P) (B10 P):=fun ⟨_,_,_,_,_,_,_⟩ _ ⟨I,μ,h0,hI⟩=>⟨apT _ I,apT _ μ,h0,fun ⟨_,_,_,_,_,_,_⟩ _ h=>hI _ _ _ _ _ _ _  h⟩
def B11 (P:PT):Y k1:=fun x0 x3 x8 x9 x10 H=>
  L7 P x0 x3 x8 x9 x10 (i64.wrap (Int.tdiv (i64.wrap (x10-1)) 2)) H
abbrev k3:Sk:=[(0,.v),(1,J),(2,J),(3,.v),(8,J),(9,J)]
def B12 (P:PT):Y k3:=fun x0 x1 x2 x3 x8 x9 H=>
  B11 P x0 x3 x8 x9 (i64.wrap (x2-x1)) H
abbrev k4:Sk:=[(0,.v),(1,J),(2,J),(3,.v),(8,J)]
def o13:=O 6
def B13 (P:PT):Y k4:=fun x0 x1 x2 x3 x8 H=>
  B12 P x0 x1 x2 x3 x8 0 H
abbrev k5:Sk:=[(0,.v),(1,J),(2,J),(3,.v)]
def B14 (P:PT):Y k5:=fun x0 x1 x2 x3 H=>
  B13 P x0 x1 x2 x3 x1 H
def code:Code:=(.seq (R 0 2) (.seq (R 1 6) (.seq (R 2 14) (.seq (.seq (R 3 60) (.block 0 (.loop (.seq (.seq (R 4 976) (.cond (.tmp 21) .skip (.exit 0))) (.seq (.block 1 (R 6 1956)) (R 5 979)))))) (.seq (R 7 62) (.block 2 (.loop (.seq (.seq (R 8 1008) (.cond (.tmp 33) .skip (.exit 2))) (.seq (.block 3 (.seq (.region 10 ⟨o4⟩ true) (R 11 4041))) (R 9 1011))))))))))
theorem body:Tryz.f217.body=some code:=by kernel_rfl
theorem main P:Z 60 k5 (B14 P) code (ret P):=
  (r_seq (b (E k4 (B13 P))) (r_seq (b (E k3 (B12 P))) (r_seq (b (E k1 (B11 P))) (r_seq (r_seq (b (E k2 (L7 P))) (r_block (rL (l7 P) (fun N7=>(r_seq (r_seq (b (cnd 21 (E k2 (B9 P N7)) (E k1 (B6 P)))) (r_cond rfl r_skip (r_exit (fun _ _ h=>h)))) (r_seq (r_block (b (E k2 (B8 P N7)))) (b (E k2 N7)))))))) (r_seq (b (E k0 (L1 P))) (r_block (rL (l1 P) (fun N1=>(r_seq (r_seq (b (cnd 33 (E k0 (B4 P N1)) (ret P))) (r_cond rfl r_skip (r_exit (fun _ _ h=>h)))) (r_seq (r_block (r_seq (rD T0_ok mixed [(0,false),(1,false),(2,false),(3,false),(4,false),(5,false),(6,false),(7,false),(8,false),(9,false),(10,false),(11,false),(12,false),(13,false),(14,false),(15,false),(16,false),(17,false),(18,false),(19,false)] (by kernel_rfl) (q4 P N1)) (b (E k0 (B2 P N1))))) (b (E k0 N1))))))))))))
theorem ac (P:PT) (x0:Value) (x1 x2:Int) (x3:Value) (H:AHeap) (h:B14 P x0 x1 x2 x3 H):A 217 [x0,(I x1),(I x2),x3] H P:=
  r_fn T0_ok (c:=code) (n:=60) Tryz.func217 body (by kernel_rfl) (main P) (En_mk (x0,x1,x2,x3,()) (by kernel_rfl) ⟨by kernel_rfl,by kernel_rfl,by kernel_rfl,by kernel_rfl,trivial⟩ h)

end F217
namespace F218
abbrev E:=En 67
def O (k:Nat):=ob Tryz.f218 (pth k)
abbrev R (i k:Nat):Code:=.region i ⟨O k⟩ false
def ret (P:PT):EP:=retE T0 67 Tryz.f218 P
abbrev k0:Sk:=[(0,.v),(1,J),(8,J),(9,.x),(10,.i .u64),(11,J)]
def o2:=O 1907
def B2 (P:PT) (N1:Y k0):Y k0:=fun x0 x1 x8 x9 x10 x11 H=>
  N1 x0 x1 x8 x9 x10 (i64.wrap (x11+1)) H
abbrev k1:Sk:=[(0,.v),(1,J),(8,J),(9,.x),(10,.i .u64),(11,J),(12,J)]
def o3:=O 15251
def B3 (P:PT) (N1:Y k0):Y k1:=fun x0 x1 x8 x9 x10 x11 x12 H=>
  idxK x0 (i64.wrap (x1+x12)) 2 (fun b1 o2=>li H b1 o2 (fun v3=>li H b1 (o2+1) (fun v4=>idxK x0 x11 2 (fun b5 o6=>li H b5 o6 (fun v7=>li H b5 (o6+1) (fun v8=>idxK x0 x11 2 (fun b9 o10=>stK H b9 o10 [(I v3),(I v4)] (fun H11=>idxK x0 (i64.wrap (x1+x12)) 2 (fun b12 o13=>stK H11 b12 o13 [(I v7),(I v8)] (fun H14=>B2 P N1 x0 x1 x8 x9 x10 x11 H14))))))))))
theorem q3 (P:PT) (N1:Y k0):QD Tryz.prog T0 67 o3 [(0,false),(1,false),(2,false),(3,false),(4,false),(5,false),(6,false),(7,false),(8,false),(9,false),(10,false),(11,false),(12,false),(13,false),(14,false),(15,false),(16,false),(17,false),(18,false),(19,false)] (En 67 k0 (B2 P N1)) k1 (B3 P N1):=fun _ _ _ _ _ _ _ _ _  => by kernel_rfl
def B4 (P:PT) (N1:Y k0):Y k1:=fun x0 x1 x8 x9 x10 x11 x12 H=>
  B3 P N1 x0 x1 x8 x9 x10 x11 (i64.wrap (x12-x8)) H
def B5 (P:PT) (N1:Y k0):Y k1:=fun x0 x1 x8 x9 x10 x11 x12 H=>
  pif (decide ((x12:Int)≥x8)) (B4 P N1 x0 x1 x8 x9 x10 x11 x12 H) (B3 P N1 x0 x1 x8 x9 x10 x11 x12 H)
def o6:=O 7624
def B6 (P:PT) (N1:Y k0):Y k0:=fun x0 x1 x8 x9 x10 x11 H=>
  A 213 [(pointer (some ⟨x9,0,none⟩))] H (fun v1 H2=>asI .u64 v1 (fun v3=>B5 P N1 x0 x1 x8 x9 x10 x11 (i64.wrap (u64.wrap (BitVec.ofInt 64 v3&&&BitVec.ofInt 64 (u64.wrap (x10-1))).toNat)) H2))
def B7 (P:PT) (N1:Y k0):Y k0:=fun x0 x1 x8 x9 x10 x11 H=>
  pif (decide ((x11:Int)≤(i64.wrap ((i64.wrap (x1+(i64.wrap ((i64.wrap (Int.tdiv x8 4))*2))))+1)))) (B6 P N1 x0 x1 x8 x9 x10 x11 H) (P (tuple ⟨[]⟩) H)
def L1 (P:PT):Y k0:=fun x0 x1 x8 x9 x10 x11 H=>
  ∃ (I:Y k0) (μ:NTy k0 (AHeap→Nat)),I x0 x1 x8 x9 x10 x11 H∧∀ y0 y1 y8 y9 y10 y11 G,I y0 y1 y8 y9 y10 y11 G→B7 P (fun z0 z1 z8 z9 z10 z11 G'=>I z0 z1 z8 z9 z10 z11 G'∧μ z0 z1 z8 z9 z10 z11 G'<μ y0 y1 y8 y9 y10 y11 G) y0 y1 y8 y9 y10 y11 G
theorem l1 P:LQ k0 (L1 P) (B7 P):=fun ⟨_,_,_,_,_,_,_⟩ _ ⟨I,μ,h0,hI⟩=>⟨apT _ I,apT _ μ,h0,fun ⟨_,_,_,_,_,_,_⟩ _ h=>hI _ _ _ _ _ _ _  h⟩
abbrev k2:Sk:=[(0,.v),(1,J),(8,J),(9,.x),(10,.i .u64)]
def B8 (P:PT):Y k2:=fun x0 x1 x8 x9 x10 H=>
  L1 P x0 x1 x8 x9 x10 (i64.wrap ((i64.wrap (x1+(i64.wrap ((i64.wrap (Int.tdiv x8 4))*2))))-1)) H
abbrev k3:Sk:=[(0,.v),(1,J),(8,J),(9,.x)]
def B9 (P:PT):Y k3:=fun x0 x1 x8 x9 H=>
  A 212 [(I x8)] H (fun v1 H2=>asI .u64 v1 (fun v3=>B8 P x0 x1 x8 x9 v3 H2))
abbrev k4:Sk:=[(0,.v),(1,J),(8,J)]
def o10:=O 28
def B10 (P:PT):Y k4:=fun x0 x1 x8 H=>
  newK H [(int .u64 0)] 192 (fun b1 H2=>stK H2 b1 0 [(int .u64 (u64.wrap x8))] (fun H3=>B9 P x0 x1 x8 b1 H3))
def B11 (P:PT):Y k4:=fun x0 x1 x8 H=>
  pif (decide ((x8:Int)≥8)) (B10 P x0 x1 x8 H) (P (tuple ⟨[]⟩) H)
abbrev k5:Sk:=[(0,.v),(1,J),(2,J)]
def B12 (P:PT):Y k5:=fun x0 x1 x2 H=>
  B11 P x0 x1 (i64.wrap (x2-x1)) H
def code:Code:=(.seq (R 0 2) (.seq (R 1 6) (.cond (.tmp 17) (.seq (R 2 28) (.seq (R 3 58) (.seq (R 4 118) (.block 0 (.loop (.seq (.seq (R 5 1904) (.cond (.tmp 35) .skip (.exit 0))) (.seq (.block 1 (.seq (R 7 7624) (.seq (.seq (R 8 30500) (.cond (.tmp 45) (R 9 61002) .skip)) (.region 10 ⟨o3⟩ true)))) (R 6 1907)))))))) .skip)))
theorem body:Tryz.f218.body=some code:=by kernel_rfl
theorem main P:Z 67 k5 (B12 P) code (ret P):=
  (r_seq (b (E k4 (B11 P))) (r_seq (b (cnd 17 (E k4 (B10 P)) (ret P))) (r_cond rfl (r_seq (b (E k3 (B9 P))) (r_seq (b (E k2 (B8 P))) (r_seq (b (E k0 (L1 P))) (r_block (rL (l1 P) (fun N1=>(r_seq (r_seq (b (cnd 35 (E k0 (B6 P N1)) (ret P))) (r_cond rfl r_skip (r_exit (fun _ _ h=>h)))) (r_seq (r_block (r_seq (b (E k1 (B5 P N1))) (r_seq (r_seq (b (cnd 45 (E k1 (B4 P N1)) (E k1 (B3 P N1)))) (r_cond rfl (b (E k1 (B3 P N1))) r_skip)) (rD T0_ok mixed [(0,false),(1,false),(2,false),(3,false),(4,false),(5,false),(6,false),(7,false),(8,false),(9,false),(10,false),(11,false),(12,false),(13,false),(14,false),(15,false),(16,false),(17,false),(18,false),(19,false)] (by kernel_rfl) (q3 P N1))))) (b (E k0 N1)))))))))) r_skip)))
theorem ac (P:PT) (x0:Value) (x1 x2:Int) (x3:Value) (H:AHeap) (h:B12 P x0 x1 x2 H):A 218 [x0,(I x1),(I x2),x3] H P:=
  r_fn T0_ok (c:=code) (n:=67) Tryz.func218 body (by kernel_rfl) (main P) (En_mk (x0,x1,x2,()) (by kernel_rfl) ⟨by kernel_rfl,by kernel_rfl,by kernel_rfl,trivial⟩ h)

end F218
namespace F219
abbrev E:=En 63
def O (k:Nat):=ob Tryz.f219 (pth k)
abbrev R (i k:Nat):Code:=.region i ⟨O k⟩ false
def ret (P:PT):EP:=retE T0 63 Tryz.f219 P
abbrev k0:Sk:=[(13,J)]
def B1 (P:PT):Y k0:=fun x13 H=>
  P (tuple ⟨[(I x13),(I 1)]⟩) H
def B2 (P:PT):Y k0:=fun x13 H=>
  P (tuple ⟨[(I x13),(I 2)]⟩) H
def B3 (P:PT):Y k0:=fun x13 H=>
  P (tuple ⟨[(I x13),(I 0)]⟩) H
abbrev k1:Sk:=[(13,J),(55,J)]
def B4 (P:PT):Y k1:=fun x13 x55 H=>
  pif ((x55:Int)==12) (B2 P x13 H) (B3 P x13 H)
def B5 (P:PT):Y k1:=fun x13 x55 H=>
  pif ((x55:Int)==0) (B1 P x13 H) (B4 P x13 x55 H)
abbrev k2:Sk:=[(11,.x),(13,J)]
def B6 (P:PT):Y k2:=fun x11 x13 H=>
  li H x11 0 (fun v1=>B5 P x13 v1 H)
abbrev k3:Sk:=[(0,.v),(3,.v),(11,.x),(12,J),(13,J),(14,J)]
def B7 (P:PT):Y k3:=fun x0 x3 x11 x12 x13 x14 H=>
  A 229 [x0,(I x12),(I x13),(I x14),(pointer (some ⟨x11,0,none⟩)),x3] H (fun v1 H2=>asI .i64 v1 (fun v3=>B6 P x11 v3 H2))
def B8 (P:PT):Y k3:=fun x0 x3 x11 x12 x13 x14 H=>
  A 228 [x0,(I x14),(pointer (some ⟨x11,0,none⟩)),x3] H (fun v1 H2=>asI .i64 v1 (fun v3=>B7 P x0 x3 x11 x12 x13 v3 H2))
def B9 (P:PT):Y k3:=fun x0 x3 x11 x12 x13 x14 H=>
  A 228 [x0,(I x13),(pointer (some ⟨x11,0,none⟩)),x3] H (fun v1 H2=>asI .i64 v1 (fun v3=>B8 P x0 x3 x11 x12 v3 x14 H2))
def B10 (P:PT):Y k3:=fun x0 x3 x11 x12 x13 x14 H=>
  A 228 [x0,(I x12),(pointer (some ⟨x11,0,none⟩)),x3] H (fun v1 H2=>asI .i64 v1 (fun v3=>B9 P x0 x3 x11 v3 x13 x14 H2))
abbrev k4:Sk:=[(0,.v),(3,.v),(10,J),(11,.x),(12,J),(13,J),(14,J)]
def B11 (P:PT):Y k4:=fun x0 x3 x10 x11 x12 x13 x14 H=>
  pif (decide ((x10:Int)≥50)) (B10 P x0 x3 x11 x12 x13 x14 H) (B7 P x0 x3 x11 x12 x13 x14 H)
def B12 (P:PT):Y k4:=fun x0 x3 x10 x11 x12 x13 x14 H=>
  pif (decide ((x10:Int)≥8)) (B11 P x0 x3 x10 x11 x12 x13 x14 H) (B6 P x11 x13 H)
abbrev k5:Sk:=[(0,.v),(1,J),(3,.v),(10,J),(11,.x),(12,J),(13,J)]
def B13 (P:PT):Y k5:=fun x0 x1 x3 x10 x11 x12 x13 H=>
  B12 P x0 x3 x10 x11 x12 x13 (i64.wrap (x1+(i64.wrap ((i64.wrap (Int.tdiv x10 4))*3)))) H
abbrev k6:Sk:=[(0,.v),(1,J),(3,.v),(10,J),(11,.x),(12,J)]
def B14 (P:PT):Y k6:=fun x0 x1 x3 x10 x11 x12 H=>
  B13 P x0 x1 x3 x10 x11 x12 (i64.wrap (x1+(i64.wrap ((i64.wrap (Int.tdiv x10 4))*2)))) H
abbrev k7:Sk:=[(0,.v),(1,J),(3,.v),(10,J),(11,.x)]
def B15 (P:PT):Y k7:=fun x0 x1 x3 x10 x11 H=>
  B14 P x0 x1 x3 x10 x11 (i64.wrap (x1+(i64.wrap ((i64.wrap (Int.tdiv x10 4))*1)))) H
abbrev k8:Sk:=[(0,.v),(1,J),(3,.v),(10,J)]
def B16 (P:PT):Y k8:=fun x0 x1 x3 x10 H=>
  newK H [(I 0)] 3 (fun b1 H2=>B15 P x0 x1 x3 x10 b1 H2)
abbrev k9:Sk:=[(0,.v),(1,J),(2,J),(3,.v)]
def B17 (P:PT):Y k9:=fun x0 x1 x2 x3 H=>
  B16 P x0 x1 x3 (i64.wrap (x2-x1)) H
def B18 (P:PT):Y k9:=fun x0 x1 x2 x3 H=>
  B17 P x0 x1 x2 x3 H
def code:Code:=(.seq (R 0 2) (.seq (R 1 6) (.seq (R 2 14) (.seq (R 3 30) (.seq (R 4 62) (.seq (R 5 126) (.seq (.seq (R 6 508) (.cond (.tmp 34) (.seq (.seq (R 7 4072) (.cond (.tmp 36) (.seq (R 8 16292) (.seq (R 9 32586) (R 10 32587))) .skip)) (R 11 2037)) .skip)) (.seq (R 12 510) (.block 0 (.seq (R 14 2044) (.cond (.tmp 57) (.seq (R 15 8180) .ret) (.seq (R 16 8182) (.cond (.tmp 60) (.seq (R 17 32732) .ret) (.seq (R 13 32734) .ret))))))))))))))
theorem body:Tryz.f219.body=some code:=by kernel_rfl
theorem main P:Z 63 k9 (B18 P) code (ret P):=
  (r_seq (b (E k9 (B17 P))) (r_seq (b (E k8 (B16 P))) (r_seq (b (E k7 (B15 P))) (r_seq (b (E k6 (B14 P))) (r_seq (b (E k5 (B13 P))) (r_seq (b (E k4 (B12 P))) (r_seq (r_seq (b (cnd 34 (E k4 (B11 P)) (E k2 (B6 P)))) (r_cond rfl (r_seq (r_seq (b (cnd 36 (E k3 (B10 P)) (E k3 (B7 P)))) (r_cond rfl (r_seq (b (E k3 (B9 P))) (r_seq (b (E k3 (B8 P))) (b (E k3 (B7 P))))) r_skip)) (b (E k2 (B6 P)))) r_skip)) (r_seq (b (E k1 (B5 P))) (r_block (r_seq (b (cnd 57 (E k0 (B1 P)) (E k1 (B4 P)))) (r_cond rfl (r_seq (b (ret P)) r_ret) (r_seq (b (cnd 60 (E k0 (B2 P)) (E k0 (B3 P)))) (r_cond rfl (r_seq (b (ret P)) r_ret) (r_seq (b (ret P)) r_ret))))))))))))))
theorem ac (P:PT) (x0:Value) (x1 x2:Int) (x3:Value) (H:AHeap) (h:B18 P x0 x1 x2 x3 H):A 219 [x0,(I x1),(I x2),x3] H P:=
  r_fn T0_ok (c:=code) (n:=63) Tryz.func219 body (by kernel_rfl) (main P) (En_mk (x0,x1,x2,x3,()) (by kernel_rfl) ⟨by kernel_rfl,by kernel_rfl,by kernel_rfl,by kernel_rfl,trivial⟩ h)

end F219
namespace F220
abbrev E:=En 34
def O (k:Nat):=ob Tryz.f220 (pth k)
abbrev R (i k:Nat):Code:=.region i ⟨O k⟩ false
def ret (P:PT):EP:=retE T0 34 Tryz.f220 P
abbrev k0:Sk:=[(0,.v),(8,J),(9,J)]
def o2:=O 459
def B2 (P:PT) (N1:Y k0):Y k0:=fun x0 x8 x9 H=>
  N1 x0 x8 (i64.wrap (x9-1)) H
def B3 (P:PT) (N1:Y k0):Y k0:=fun x0 x8 x9 H=>
  B2 P N1 x0 (i64.wrap (x8+1)) x9 H
def o4:=O 228
def B4 (P:PT) (N1:Y k0):Y k0:=fun x0 x8 x9 H=>
  idxK x0 x9 2 (fun b1 o2=>li H b1 o2 (fun v3=>li H b1 (o2+1) (fun v4=>idxK x0 x8 2 (fun b5 o6=>li H b5 o6 (fun v7=>li H b5 (o6+1) (fun v8=>idxK x0 x8 2 (fun b9 o10=>stK H b9 o10 [(I v3),(I v4)] (fun H11=>idxK x0 x9 2 (fun b12 o13=>stK H11 b12 o13 [(I v7),(I v8)] (fun H14=>B3 P N1 x0 x8 x9 H14))))))))))
theorem q4 (P:PT) (N1:Y k0):QD Tryz.prog T0 34 o4 [(0,false),(1,false),(2,false),(3,false),(4,false),(5,false),(6,false),(7,false),(8,false),(9,false),(10,false),(11,false),(12,false),(13,false),(14,false),(15,false)] (En 34 k0 (B3 P N1)) k0 (B4 P N1):=fun _ _ _ _ _  => by kernel_rfl
def B5 (P:PT) (N1:Y k0):Y k0:=fun x0 x8 x9 H=>
  pif (decide ((x8:Int)<x9)) (B4 P N1 x0 x8 x9 H) (P (tuple ⟨[]⟩) H)
def L1 (P:PT):Y k0:=fun x0 x8 x9 H=>
  ∃ (I:Y k0) (μ:NTy k0 (AHeap→Nat)),I x0 x8 x9 H∧∀ y0 y8 y9 G,I y0 y8 y9 G→B5 P (fun z0 z8 z9 G'=>I z0 z8 z9 G'∧μ z0 z8 z9 G'<μ y0 y8 y9 G) y0 y8 y9 G
theorem l1 P:LQ k0 (L1 P) (B5 P):=fun ⟨_,_,_,_⟩ _ ⟨I,μ,h0,hI⟩=>⟨apT _ I,apT _ μ,h0,fun ⟨_,_,_,_⟩ _ h=>hI _ _ _ _  h⟩
abbrev k1:Sk:=[(0,.v),(2,J),(8,J)]
def o6:=O 6
def B6 (P:PT):Y k1:=fun x0 x2 x8 H=>
  L1 P x0 x8 (i64.wrap (x2-1)) H
abbrev k2:Sk:=[(0,.v),(1,J),(2,J)]
def B7 (P:PT):Y k2:=fun x0 x1 x2 H=>
  B6 P x0 x2 x1 H
def code:Code:=(.seq (R 0 2) (.seq (R 1 6) (.block 0 (.loop (.seq (.seq (R 2 112) (.cond (.tmp 15) .skip (.exit 0))) (.block 1 (.seq (.region 3 ⟨o4⟩ true) (.seq (R 4 458) (R 5 459)))))))))
theorem body:Tryz.f220.body=some code:=by kernel_rfl
theorem main P:Z 34 k2 (B7 P) code (ret P):=
  (r_seq (b (E k1 (B6 P))) (r_seq (b (E k0 (L1 P))) (r_block (rL (l1 P) (fun N1=>(r_seq (r_seq (b (cnd 15 (E k0 (B4 P N1)) (ret P))) (r_cond rfl r_skip (r_exit (fun _ _ h=>h)))) (r_block (r_seq (rD T0_ok mixed [(0,false),(1,false),(2,false),(3,false),(4,false),(5,false),(6,false),(7,false),(8,false),(9,false),(10,false),(11,false),(12,false),(13,false),(14,false),(15,false)] (by kernel_rfl) (q4 P N1)) (r_seq (b (E k0 (B2 P N1))) (b (E k0 N1)))))))))))
theorem ac (P:PT) (x0:Value) (x1 x2:Int) (x3:Value) (H:AHeap) (h:B7 P x0 x1 x2 H):A 220 [x0,(I x1),(I x2),x3] H P:=
  r_fn T0_ok (c:=code) (n:=34) Tryz.func220 body (by kernel_rfl) (main P) (En_mk (x0,x1,x2,()) (by kernel_rfl) ⟨by kernel_rfl,by kernel_rfl,by kernel_rfl,trivial⟩ h)

end F220
namespace F221
abbrev E:=En 141
def O (k:Nat):=ob Tryz.f221 (pth k)
abbrev R (i k:Nat):Code:=.region i ⟨O k⟩ false
def ret (P:PT):EP:=retE T0 141 Tryz.f221 P
abbrev k0:Sk:=[]
def B1 (P:PT):Y k0:=fun H=>
  P (bool false) H
abbrev k1:Sk:=[(0,.v),(1,J),(2,J),(3,.v),(9,J),(10,J)]
def B3 (P:PT) (N2:Y k1):Y k1:=fun x0 x1 x2 x3 x9 x10 H=>
  N2 x0 x1 x2 x3 x9 (i64.wrap (x10+1)) H
abbrev k2:Sk:=[(0,.v),(1,J),(2,J),(3,.v),(9,J),(10,J),(12,J)]
def B5 (P:PT) (N2:Y k1) (N4:Y k2):Y k2:=fun x0 x1 x2 x3 x9 x10 x12 H=>
  N4 x0 x1 x2 x3 x9 x10 (i64.wrap (x12+1)) H
def o6:=O 15286089
def B6 (P:PT) (N2:Y k1) (N4:Y k2):Y k2:=fun x0 x1 x2 x3 x9 x10 x12 H=>
  idxK x0 (i64.wrap (x12-1)) 2 (fun b1 o2=>li H b1 o2 (fun v3=>li H b1 (o2+1) (fun v4=>idxK x0 x12 2 (fun b5 o6=>li H b5 o6 (fun v7=>li H b5 (o6+1) (fun v8=>idxK x0 x12 2 (fun b9 o10=>stK H b9 o10 [(I v3),(I v4)] (fun H11=>idxK x0 (i64.wrap (x12-1)) 2 (fun b12 o13=>stK H11 b12 o13 [(I v7),(I v8)] (fun H14=>B5 P N2 N4 x0 x1 x2 x3 x9 x10 x12 H14))))))))))
theorem q6 (P:PT) (N2:Y k1) (N4:Y k2):QD Tryz.prog T0 141 o6 [(0,false),(1,false),(2,false),(3,false),(4,false),(5,false),(6,false),(7,false),(8,false),(9,false),(10,false),(11,false),(12,false),(13,false),(14,false),(15,false),(16,false),(17,false)] (En 141 k2 (B5 P N2 N4)) k2 (B6 P N2 N4):=fun _ _ _ _ _ _ _ _ _  => by kernel_rfl
def o7:=O 30572176
def B7 (P:PT) (N2:Y k1) (N4:Y k2):Y k2:=fun x0 x1 x2 x3 x9 x10 x12 H=>
  idxK x0 x12 2 (fun b1 o2=>li H b1 o2 (fun v3=>li H b1 (o2+1) (fun v4=>idxK x0 (i64.wrap (x12-1)) 2 (fun b5 o6=>li H b5 o6 (fun v7=>li H b5 (o6+1) (fun v8=>callV Tryz.prog T0 x3 [(agg ⟨[(I v3),(I v4)]⟩),(agg ⟨[(I v7),(I v8)]⟩)] H (fun v9 H10=>asI .i64 v9 (fun v11=>pif (!(decide ((v11:Int)<0))) (B3 P N2 x0 x1 x2 x3 x9 x10 H10) (B6 P N2 N4 x0 x1 x2 x3 x9 x10 x12 H10)))))))))
theorem q7 (P:PT) (N2:Y k1) (N4:Y k2):QD Tryz.prog T0 141 o7 [(0,false),(1,false),(2,false),(3,false),(4,false),(5,false),(6,false),(7,false),(8,false),(9,false),(10,false),(11,false),(12,false)] (cnd 124 (En 141 k1 (B3 P N2)) (En 141 k2 (B6 P N2 N4))) k2 (B7 P N2 N4):=fun _ _ _ _ _ _ _ _ _  => by kernel_rfl
def B8 (P:PT) (N2:Y k1) (N4:Y k2):Y k2:=fun x0 x1 x2 x3 x9 x10 x12 H=>
  pif (decide ((x12:Int)<x2)) (B7 P N2 N4 x0 x1 x2 x3 x9 x10 x12 H) (B3 P N2 x0 x1 x2 x3 x9 x10 H)
def L4 (P:PT) (N2:Y k1):Y k2:=fun x0 x1 x2 x3 x9 x10 x12 H=>
  ∃ (I:Y k2) (μ:NTy k2 (AHeap→Nat)),I x0 x1 x2 x3 x9 x10 x12 H∧∀ y0 y1 y2 y3 y9 y10 y12 G,I y0 y1 y2 y3 y9 y10 y12 G→B8 P N2 (fun z0 z1 z2 z3 z9 z10 z12 G'=>I z0 z1 z2 z3 z9 z10 z12 G'∧μ z0 z1 z2 z3 z9 z10 z12 G'<μ y0 y1 y2 y3 y9 y10 y12 G) y0 y1 y2 y3 y9 y10 y12 G
theorem l4 P N2:LQ k2 (L4 P N2) (B8 P N2):=fun ⟨_,_,_,_,_,_,_,_⟩ _ ⟨I,μ,h0,hI⟩=>⟨apT _ I,apT _ μ,h0,fun ⟨_,_,_,_,_,_,_,_⟩ _ h=>hI _ _ _ _ _ _ _ _  h⟩
def B9 (P:PT) (N2:Y k1):Y k1:=fun x0 x1 x2 x3 x9 x10 H=>
  L4 P N2 x0 x1 x2 x3 x9 x10 (i64.wrap (x9+1)) H
def o10:=O 59710
def B10 (P:PT) (N2:Y k1):Y k1:=fun x0 x1 x2 x3 x9 x10 H=>
  pif (decide ((i64.wrap (x2-x9):Int)≥2)) (B9 P N2 x0 x1 x2 x3 x9 x10 H) (B3 P N2 x0 x1 x2 x3 x9 x10 H)
abbrev k3:Sk:=[(0,.v),(1,J),(2,J),(3,.v),(9,J),(10,J),(11,J)]
def B12 (P:PT) (N2:Y k1) (N11:Y k3):Y k3:=fun x0 x1 x2 x3 x9 x10 x11 H=>
  N11 x0 x1 x2 x3 x9 x10 (i64.wrap (x11-1)) H
def o13:=O 15285577
def B13 (P:PT) (N2:Y k1) (N11:Y k3):Y k3:=fun x0 x1 x2 x3 x9 x10 x11 H=>
  idxK x0 (i64.wrap (x11-1)) 2 (fun b1 o2=>li H b1 o2 (fun v3=>li H b1 (o2+1) (fun v4=>idxK x0 x11 2 (fun b5 o6=>li H b5 o6 (fun v7=>li H b5 (o6+1) (fun v8=>idxK x0 x11 2 (fun b9 o10=>stK H b9 o10 [(I v3),(I v4)] (fun H11=>idxK x0 (i64.wrap (x11-1)) 2 (fun b12 o13=>stK H11 b12 o13 [(I v7),(I v8)] (fun H14=>B12 P N2 N11 x0 x1 x2 x3 x9 x10 x11 H14))))))))))
theorem q13 (P:PT) (N2:Y k1) (N11:Y k3):QD Tryz.prog T0 141 o13 [(0,false),(1,false),(2,false),(3,false),(4,false),(5,false),(6,false),(7,false),(8,false),(9,false),(10,false),(11,false),(12,false),(13,false),(14,false),(15,false),(16,false),(17,false)] (En 141 k3 (B12 P N2 N11)) k3 (B13 P N2 N11):=fun _ _ _ _ _ _ _ _ _  => by kernel_rfl
def o14:=O 30571152
def B14 (P:PT) (N2:Y k1) (N11:Y k3):Y k3:=fun x0 x1 x2 x3 x9 x10 x11 H=>
  idxK x0 x11 2 (fun b1 o2=>li H b1 o2 (fun v3=>li H b1 (o2+1) (fun v4=>idxK x0 (i64.wrap (x11-1)) 2 (fun b5 o6=>li H b5 o6 (fun v7=>li H b5 (o6+1) (fun v8=>callV Tryz.prog T0 x3 [(agg ⟨[(I v3),(I v4)]⟩),(agg ⟨[(I v7),(I v8)]⟩)] H (fun v9 H10=>asI .i64 v9 (fun v11=>pif (!(decide ((v11:Int)<0))) (B10 P N2 x0 x1 x2 x3 x9 x10 H10) (B13 P N2 N11 x0 x1 x2 x3 x9 x10 x11 H10)))))))))
theorem q14 (P:PT) (N2:Y k1) (N11:Y k3):QD Tryz.prog T0 141 o14 [(0,false),(1,false),(2,false),(3,false),(4,false),(5,false),(6,false),(7,false),(8,false),(9,false),(10,false),(11,false),(12,false)] (cnd 84 (En 141 k1 (B10 P N2)) (En 141 k3 (B13 P N2 N11))) k3 (B14 P N2 N11):=fun _ _ _ _ _ _ _ _ _  => by kernel_rfl
def B15 (P:PT) (N2:Y k1) (N11:Y k3):Y k3:=fun x0 x1 x2 x3 x9 x10 x11 H=>
  pif (decide ((x11:Int)≥1)) (B14 P N2 N11 x0 x1 x2 x3 x9 x10 x11 H) (B10 P N2 x0 x1 x2 x3 x9 x10 H)
def L11 (P:PT) (N2:Y k1):Y k3:=fun x0 x1 x2 x3 x9 x10 x11 H=>
  ∃ (I:Y k3) (μ:NTy k3 (AHeap→Nat)),I x0 x1 x2 x3 x9 x10 x11 H∧∀ y0 y1 y2 y3 y9 y10 y11 G,I y0 y1 y2 y3 y9 y10 y11 G→B15 P N2 (fun z0 z1 z2 z3 z9 z10 z11 G'=>I z0 z1 z2 z3 z9 z10 z11 G'∧μ z0 z1 z2 z3 z9 z10 z11 G'<μ y0 y1 y2 y3 y9 y10 y11 G) y0 y1 y2 y3 y9 y10 y11 G
theorem l11 P N2:LQ k3 (L11 P N2) (B15 P N2):=fun ⟨_,_,_,_,_,_,_,_⟩ _ ⟨I,μ,h0,hI⟩=>⟨apT _ I,apT _ μ,h0,fun ⟨_,_,_,_,_,_,_,_⟩ _ h=>hI _ _ _ _ _ _ _ _  h⟩
def B16 (P:PT) (N2:Y k1):Y k1:=fun x0 x1 x2 x3 x9 x10 H=>
  L11 P N2 x0 x1 x2 x3 x9 x10 (i64.wrap (x9-1)) H
def B17 (P:PT) (N2:Y k1):Y k1:=fun x0 x1 x2 x3 x9 x10 H=>
  pif (decide ((i64.wrap (x9-x1):Int)≥2)) (B16 P N2 x0 x1 x2 x3 x9 x10 H) (B10 P N2 x0 x1 x2 x3 x9 x10 H)
def o18:=O 14926
def B18 (P:PT) (N2:Y k1):Y k1:=fun x0 x1 x2 x3 x9 x10 H=>
  idxK x0 (i64.wrap (x9-1)) 2 (fun b1 o2=>li H b1 o2 (fun v3=>li H b1 (o2+1) (fun v4=>idxK x0 x9 2 (fun b5 o6=>li H b5 o6 (fun v7=>li H b5 (o6+1) (fun v8=>idxK x0 x9 2 (fun b9 o10=>stK H b9 o10 [(I v3),(I v4)] (fun H11=>idxK x0 (i64.wrap (x9-1)) 2 (fun b12 o13=>stK H11 b12 o13 [(I v7),(I v8)] (fun H14=>B17 P N2 x0 x1 x2 x3 x9 x10 H14))))))))))
theorem q18 (P:PT) (N2:Y k1):QD Tryz.prog T0 141 o18 [(0,false),(1,false),(2,false),(3,false),(4,false),(5,false),(6,false),(7,false),(8,false),(9,false),(10,false),(11,false),(12,false),(13,false),(14,false),(15,false),(16,false),(17,false)] (En 141 k1 (B17 P N2)) k1 (B18 P N2):=fun _ _ _ _ _ _ _ _  => by kernel_rfl
def B19 (P:PT) (N2:Y k1):Y k0:=fun H=>
  P (bool false) H
def B20 (P:PT) (N2:Y k1):Y k1:=fun x0 x1 x2 x3 x9 x10 H=>
  pif (decide ((i64.wrap (x2-x1):Int)<50)) (B19 P N2 H) (B18 P N2 x0 x1 x2 x3 x9 x10 H)
def B21 (P:PT) (N2:Y k1):Y k0:=fun H=>
  P (bool true) H
def B22 (P:PT) (N2:Y k1):Y k1:=fun x0 x1 x2 x3 x9 x10 H=>
  pif ((x9:Int)==x2) (B21 P N2 H) (B20 P N2 x0 x1 x2 x3 x9 x10 H)
def B24 (P:PT) (N2:Y k1) (N23:Y k1):Y k1:=fun x0 x1 x2 x3 x9 x10 H=>
  N23 x0 x1 x2 x3 (i64.wrap (x9+1)) x10 H
def o25:=O 29824
def B25 (P:PT) (N2:Y k1) (N23:Y k1):Y k1:=fun x0 x1 x2 x3 x9 x10 H=>
  pif (decide ((x9:Int)<x2)) (idxK x0 x9 2 (fun b1 o2=>li H b1 o2 (fun v3=>li H b1 (o2+1) (fun v4=>idxK x0 (i64.wrap (x9-1)) 2 (fun b5 o6=>li H b5 o6 (fun v7=>li H b5 (o6+1) (fun v8=>callV Tryz.prog T0 x3 [(agg ⟨[(I v3),(I v4)]⟩),(agg ⟨[(I v7),(I v8)]⟩)] H (fun v9 H10=>asI .i64 v9 (fun v11=>pif (!(decide ((v11:Int)<0))) (B24 P N2 N23 x0 x1 x2 x3 x9 x10 H10) (B22 P N2 x0 x1 x2 x3 x9 x10 H10)))))))))) (B22 P N2 x0 x1 x2 x3 x9 x10 H)
theorem q25 (P:PT) (N2:Y k1) (N23:Y k1):QD Tryz.prog T0 141 o25 [(0,false),(1,false),(2,false),(3,false),(4,false),(5,false),(6,false),(7,false),(8,false),(9,false),(10,false),(11,false),(12,false),(13,false),(14,false),(15,false),(16,false),(17,false)] (cnd 36 (En 141 k1 (B24 P N2 N23)) (En 141 k1 (B22 P N2))) k1 (B25 P N2 N23):=fun _ _ _ _ _ _ _ _  => by kernel_rfl
def L23 (P:PT) (N2:Y k1):Y k1:=fun x0 x1 x2 x3 x9 x10 H=>
  ∃ (I:Y k1) (μ:NTy k1 (AHeap→Nat)),I x0 x1 x2 x3 x9 x10 H∧∀ y0 y1 y2 y3 y9 y10 G,I y0 y1 y2 y3 y9 y10 G→B25 P N2 (fun z0 z1 z2 z3 z9 z10 G'=>I z0 z1 z2 z3 z9 z10 G'∧μ z0 z1 z2 z3 z9 z10 G'<μ y0 y1 y2 y3 y9 y10 G) y0 y1 y2 y3 y9 y10 G
theorem l23 P N2:LQ k1 (L23 P N2) (B25 P N2):=fun ⟨_,_,_,_,_,_,_⟩ _ ⟨I,μ,h0,hI⟩=>⟨apT _ I,apT _ μ,h0,fun ⟨_,_,_,_,_,_,_⟩ _ h=>hI _ _ _ _ _ _ _  h⟩
def B26 (P:PT) (N2:Y k1):Y k1:=fun x0 x1 x2 x3 x9 x10 H=>
  pif (decide ((x10:Int)<5)) (L23 P N2 x0 x1 x2 x3 x9 x10 H) (B1 P H)
def L2 (P:PT):Y k1:=fun x0 x1 x2 x3 x9 x10 H=>
  ∃ (I:Y k1) (μ:NTy k1 (AHeap→Nat)),I x0 x1 x2 x3 x9 x10 H∧∀ y0 y1 y2 y3 y9 y10 G,I y0 y1 y2 y3 y9 y10 G→B26 P (fun z0 z1 z2 z3 z9 z10 G'=>I z0 z1 z2 z3 z9 z10 G'∧μ z0 z1 z2 z3 z9 z10 G'<μ y0 y1 y2 y3 y9 y10 G) y0 y1 y2 y3 y9 y10 G
theorem l2 P:LQ k1 (L2 P) (B26 P):=fun ⟨_,_,_,_,_,_,_⟩ _ ⟨I,μ,h0,hI⟩=>⟨apT _ I,apT _ μ,h0,fun ⟨_,_,_,_,_,_,_⟩ _ h=>hI _ _ _ _ _ _ _  h⟩
abbrev k4:Sk:=[(0,.v),(1,J),(2,J),(3,.v),(9,J)]
def B27 (P:PT):Y k4:=fun x0 x1 x2 x3 x9 H=>
  L2 P x0 x1 x2 x3 x9 0 H
abbrev k5:Sk:=[(0,.v),(1,J),(2,J),(3,.v)]
def B28 (P:PT):Y k5:=fun x0 x1 x2 x3 H=>
  B27 P x0 x1 x2 x3 (i64.wrap (x1+1)) H
def B29 (P:PT):Y k5:=fun x0 x1 x2 x3 H=>
  B28 P x0 x1 x2 x3 H
def code:Code:=(.seq (R 0 2) (.seq (R 1 6) (.seq (.seq (R 2 28) (.block 0 (.loop (.seq (.seq (R 3 464) (.cond (.tmp 16) .skip (.exit 0))) (.seq (.block 1 (.seq (.block 2 (.loop (.seq (.seq (.region 5 ⟨o25⟩ true) (.cond (.tmp 36) .skip (.exit 2))) (.block 3 (R 6 29826))))) (.seq (.seq (R 7 7460) (.cond (.tmp 41) (.seq (R 8 29844) .ret) .skip)) (.seq (.seq (R 9 14924) (.cond (.tmp 45) (.seq (R 10 59700) .ret) .skip)) (.seq (.region 11 ⟨o18⟩ true) (.seq (.seq (R 12 59708) (.cond (.tmp 65) (.seq (R 13 238836) (.block 4 (.loop (.seq (.seq (R 14 3821392) (.cond (.tmp 69) .skip (.exit 4))) (.seq (.block 5 (.seq (.seq (.region 16 ⟨o14⟩ true) (.cond (.tmp 84) (.exit 4) .skip)) (.region 17 ⟨o13⟩ true))) (R 15 3821395)))))) .skip)) (.seq (R 18 59710) (.cond (.tmp 104) (.seq (R 19 238844) (.block 6 (.loop (.seq (.seq (R 20 3821520) (.cond (.tmp 109) .skip (.exit 6))) (.seq (.block 7 (.seq (.seq (.region 22 ⟨o7⟩ true) (.cond (.tmp 124) (.exit 6) .skip)) (.region 23 ⟨o6⟩ true))) (R 21 3821523)))))) .skip)))))))) (R 4 467)))))) (.seq (R 24 30) .ret))))
theorem body:Tryz.f221.body=some code:=by kernel_rfl
theorem main P:Z 141 k5 (B29 P) code (ret P):=
  (r_seq (b (E k5 (B28 P))) (r_seq (b (E k4 (B27 P))) (r_seq (r_seq (b (E k1 (L2 P))) (r_block (rL (l2 P) (fun N2=>(r_seq (r_seq (b (cnd 16 (E k1 (L23 P N2)) (E k0 (B1 P)))) (r_cond rfl r_skip (r_exit (fun _ _ h=>h)))) (r_seq (r_block (r_seq (r_block (rL (l23 P N2) (fun N23=>(r_seq (r_seq (rD T0_ok mixed [(0,false),(1,false),(2,false),(3,false),(4,false),(5,false),(6,false),(7,false),(8,false),(9,false),(10,false),(11,false),(12,false),(13,false),(14,false),(15,false),(16,false),(17,false)] (by kernel_rfl) (q25 P N2 N23)) (r_cond rfl r_skip (r_exit (fun _ _ h=>h)))) (r_block (b (E k1 N23))))))) (r_seq (r_seq (b (cnd 41 (E k0 (B21 P N2)) (E k1 (B20 P N2)))) (r_cond rfl (r_seq (b (ret P)) r_ret) r_skip)) (r_seq (r_seq (b (cnd 45 (E k0 (B19 P N2)) (E k1 (B18 P N2)))) (r_cond rfl (r_seq (b (ret P)) r_ret) r_skip)) (r_seq (rD T0_ok mixed [(0,false),(1,false),(2,false),(3,false),(4,false),(5,false),(6,false),(7,false),(8,false),(9,false),(10,false),(11,false),(12,false),(13,false),(14,false),(15,false),(16,false),(17,false)] (by kernel_rfl) (q18 P N2)) (r_seq (r_seq (b (cnd 65 (E k1 (B16 P N2)) (E k1 (B10 P N2)))) (r_cond rfl (r_seq (b (E k3 (L11 P N2))) (r_block (rL (l11 P N2) (fun N11=>(r_seq (r_seq (b (cnd 69 (E k3 (B14 P N2 N11)) (E k1 (B10 P N2)))) (r_cond rfl r_skip (r_exit (fun _ _ h=>h)))) (r_seq (r_block (r_seq (r_seq (rD T0_ok mixed [(0,false),(1,false),(2,false),(3,false),(4,false),(5,false),(6,false),(7,false),(8,false),(9,false),(10,false),(11,false),(12,false)] (by kernel_rfl) (q14 P N2 N11)) (r_cond rfl (r_exit (fun _ _ h=>h)) r_skip)) (rD T0_ok mixed [(0,false),(1,false),(2,false),(3,false),(4,false),(5,false),(6,false),(7,false),(8,false),(9,false),(10,false),(11,false),(12,false),(13,false),(14,false),(15,false),(16,false),(17,false)] (by kernel_rfl) (q13 P N2 N11)))) (b (E k3 N11)))))))) r_skip)) (r_seq (b (cnd 104 (E k1 (B9 P N2)) (E k1 (B3 P N2)))) (r_cond rfl (r_seq (b (E k2 (L4 P N2))) (r_block (rL (l4 P N2) (fun N4=>(r_seq (r_seq (b (cnd 109 (E k2 (B7 P N2 N4)) (E k1 (B3 P N2)))) (r_cond rfl r_skip (r_exit (fun _ _ h=>h)))) (r_seq (r_block (r_seq (r_seq (rD T0_ok mixed [(0,false),(1,false),(2,false),(3,false),(4,false),(5,false),(6,false),(7,false),(8,false),(9,false),(10,false),(11,false),(12,false)] (by kernel_rfl) (q7 P N2 N4)) (r_cond rfl (r_exit (fun _ _ h=>h)) r_skip)) (rD T0_ok mixed [(0,false),(1,false),(2,false),(3,false),(4,false),(5,false),(6,false),(7,false),(8,false),(9,false),(10,false),(11,false),(12,false),(13,false),(14,false),(15,false),(16,false),(17,false)] (by kernel_rfl) (q6 P N2 N4)))) (b (E k2 N4)))))))) r_skip)))))))) (b (E k1 N2)))))))) (r_seq (b (ret P)) r_ret))))
theorem ac (P:PT) (x0:Value) (x1 x2:Int) (x3:Value) (H:AHeap) (h:B29 P x0 x1 x2 x3 H):A 221 [x0,(I x1),(I x2),x3] H P:=
  r_fn T0_ok (c:=code) (n:=141) Tryz.func221 body (by kernel_rfl) (main P) (En_mk (x0,x1,x2,x3,()) (by kernel_rfl) ⟨by kernel_rfl,by kernel_rfl,by kernel_rfl,by kernel_rfl,trivial⟩ h)

end F221
namespace F222
abbrev E:=En 90
def O (k:Nat):=ob Tryz.f222 (pth k)
abbrev R (i k:Nat):Code:=.region i ⟨O k⟩ false
def ret (P:PT):EP:=retE T0 90 Tryz.f222 P
abbrev k0:Sk:=[(11,J)]
def B1 (P:PT):Y k0:=fun x11 H=>
  P (I x11) H
abbrev k1:Sk:=[(0,.v),(1,J),(4,.v),(11,J),(12,J)]
def B3 (P:PT) (N2:Y k1):Y k1:=fun x0 x1 x4 x11 x12 H=>
  N2 x0 x1 x4 x11 (i64.wrap (x12-1)) H
def B4 (P:PT) (N2:Y k1):Y k1:=fun x0 x1 x4 x11 x12 H=>
  B3 P N2 x0 x1 x4 (i64.wrap (x11+1)) x12 H
def o5:=O 3854
def B5 (P:PT) (N2:Y k1):Y k1:=fun x0 x1 x4 x11 x12 H=>
  idxK x0 x12 2 (fun b1 o2=>li H b1 o2 (fun v3=>li H b1 (o2+1) (fun v4=>idxK x0 x11 2 (fun b5 o6=>li H b5 o6 (fun v7=>li H b5 (o6+1) (fun v8=>idxK x0 x11 2 (fun b9 o10=>stK H b9 o10 [(I v3),(I v4)] (fun H11=>idxK x0 x12 2 (fun b12 o13=>stK H11 b12 o13 [(I v7),(I v8)] (fun H14=>B4 P N2 x0 x1 x4 x11 x12 H14))))))))))
theorem q5 (P:PT) (N2:Y k1):QD Tryz.prog T0 90 o5 [(0,false),(1,false),(2,false),(3,false),(4,false),(5,false),(6,false),(7,false),(8,false),(9,false),(10,false),(11,false),(12,false),(13,false),(14,false),(15,false)] (En 90 k1 (B4 P N2)) k1 (B5 P N2):=fun _ _ _ _ _ _ _  => by kernel_rfl
def o6:=O 3852
def B6 (P:PT) (N2:Y k1):Y k1:=fun x0 x1 x4 x11 x12 H=>
  pif (decide ((x11:Int)>x12)) (B1 P x11 H) (B5 P N2 x0 x1 x4 x11 x12 H)
def B8 (P:PT) (N2:Y k1) (N7:Y k1):Y k1:=fun x0 x1 x4 x11 x12 H=>
  N7 x0 x1 x4 x11 (i64.wrap (x12-1)) H
def o9:=O 15392
def B9 (P:PT) (N2:Y k1) (N7:Y k1):Y k1:=fun x0 x1 x4 x11 x12 H=>
  pif (decide ((x11:Int)≤x12)) (idxK x0 x1 2 (fun b1 o2=>li H b1 o2 (fun v3=>li H b1 (o2+1) (fun v4=>idxK x0 x12 2 (fun b5 o6=>li H b5 o6 (fun v7=>li H b5 (o6+1) (fun v8=>callV Tryz.prog T0 x4 [(agg ⟨[(I v3),(I v4)]⟩),(agg ⟨[(I v7),(I v8)]⟩)] H (fun v9 H10=>asI .i64 v9 (fun v11=>pif (decide ((v11:Int)<0)) (B8 P N2 N7 x0 x1 x4 x11 x12 H10) (B6 P N2 x0 x1 x4 x11 x12 H10)))))))))) (B6 P N2 x0 x1 x4 x11 x12 H)
theorem q9 (P:PT) (N2:Y k1) (N7:Y k1):QD Tryz.prog T0 90 o9 [(0,false),(1,false),(2,false),(3,false),(4,false),(5,false),(6,false),(7,false),(8,false),(9,false),(10,false),(11,false),(12,false),(13,false),(14,false),(15,false)] (cnd 65 (En 90 k1 (B8 P N2 N7)) (En 90 k1 (B6 P N2))) k1 (B9 P N2 N7):=fun _ _ _ _ _ _ _  => by kernel_rfl
def L7 (P:PT) (N2:Y k1):Y k1:=fun x0 x1 x4 x11 x12 H=>
  ∃ (I:Y k1) (μ:NTy k1 (AHeap→Nat)),I x0 x1 x4 x11 x12 H∧∀ y0 y1 y4 y11 y12 G,I y0 y1 y4 y11 y12 G→B9 P N2 (fun z0 z1 z4 z11 z12 G'=>I z0 z1 z4 z11 z12 G'∧μ z0 z1 z4 z11 z12 G'<μ y0 y1 y4 y11 y12 G) y0 y1 y4 y11 y12 G
theorem l7 P N2:LQ k1 (L7 P N2) (B9 P N2):=fun ⟨_,_,_,_,_,_⟩ _ ⟨I,μ,h0,hI⟩=>⟨apT _ I,apT _ μ,h0,fun ⟨_,_,_,_,_,_⟩ _ h=>hI _ _ _ _ _ _  h⟩
def B11 (P:PT) (N2:Y k1) (N10:Y k1):Y k1:=fun x0 x1 x4 x11 x12 H=>
  N10 x0 x1 x4 (i64.wrap (x11+1)) x12 H
def o12:=O 7680
def B12 (P:PT) (N2:Y k1) (N10:Y k1):Y k1:=fun x0 x1 x4 x11 x12 H=>
  pif (decide ((x11:Int)≤x12)) (idxK x0 x1 2 (fun b1 o2=>li H b1 o2 (fun v3=>li H b1 (o2+1) (fun v4=>idxK x0 x11 2 (fun b5 o6=>li H b5 o6 (fun v7=>li H b5 (o6+1) (fun v8=>callV Tryz.prog T0 x4 [(agg ⟨[(I v3),(I v4)]⟩),(agg ⟨[(I v7),(I v8)]⟩)] H (fun v9 H10=>asI .i64 v9 (fun v11=>pif (!(decide ((v11:Int)<0))) (B11 P N2 N10 x0 x1 x4 x11 x12 H10) (L7 P N2 x0 x1 x4 x11 x12 H10)))))))))) (L7 P N2 x0 x1 x4 x11 x12 H)
theorem q12 (P:PT) (N2:Y k1) (N10:Y k1):QD Tryz.prog T0 90 o12 [(0,false),(1,false),(2,false),(3,false),(4,false),(5,false),(6,false),(7,false),(8,false),(9,false),(10,false),(11,false),(12,false),(13,false),(14,false),(15,false),(16,false)] (cnd 47 (En 90 k1 (B11 P N2 N10)) (En 90 k1 (L7 P N2))) k1 (B12 P N2 N10):=fun _ _ _ _ _ _ _  => by kernel_rfl
def L10 (P:PT) (N2:Y k1):Y k1:=fun x0 x1 x4 x11 x12 H=>
  ∃ (I:Y k1) (μ:NTy k1 (AHeap→Nat)),I x0 x1 x4 x11 x12 H∧∀ y0 y1 y4 y11 y12 G,I y0 y1 y4 y11 y12 G→B12 P N2 (fun z0 z1 z4 z11 z12 G'=>I z0 z1 z4 z11 z12 G'∧μ z0 z1 z4 z11 z12 G'<μ y0 y1 y4 y11 y12 G) y0 y1 y4 y11 y12 G
theorem l10 P N2:LQ k1 (L10 P N2) (B12 P N2):=fun ⟨_,_,_,_,_,_⟩ _ ⟨I,μ,h0,hI⟩=>⟨apT _ I,apT _ μ,h0,fun ⟨_,_,_,_,_,_⟩ _ h=>hI _ _ _ _ _ _  h⟩
def L2 (P:PT):Y k1:=fun x0 x1 x4 x11 x12 H=>
  ∃ (I:Y k1) (μ:NTy k1 (AHeap→Nat)),I x0 x1 x4 x11 x12 H∧∀ y0 y1 y4 y11 y12 G,I y0 y1 y4 y11 y12 G→L10 P (fun z0 z1 z4 z11 z12 G'=>I z0 z1 z4 z11 z12 G'∧μ z0 z1 z4 z11 z12 G'<μ y0 y1 y4 y11 y12 G) y0 y1 y4 y11 y12 G
theorem l2 P:LQ k1 (L2 P) (L10 P):=fun ⟨_,_,_,_,_,_⟩ _ ⟨I,μ,h0,hI⟩=>⟨apT _ I,apT _ μ,h0,fun ⟨_,_,_,_,_,_⟩ _ h=>hI _ _ _ _ _ _  h⟩
abbrev k2:Sk:=[(0,.v),(1,J),(2,J),(4,.v)]
def o13:=O 14
def B13 (P:PT):Y k2:=fun x0 x1 x2 x4 H=>
  L2 P x0 x1 x4 (i64.wrap (x1+1)) (i64.wrap (x2-1)) H
abbrev k3:Sk:=[(0,.v),(1,J),(2,J),(3,J),(4,.v)]
def o14:=O 6
def B14 (P:PT):Y k3:=fun x0 x1 x2 x3 x4 H=>
  idxK x0 x3 2 (fun b1 o2=>li H b1 o2 (fun v3=>li H b1 (o2+1) (fun v4=>idxK x0 x1 2 (fun b5 o6=>li H b5 o6 (fun v7=>li H b5 (o6+1) (fun v8=>idxK x0 x1 2 (fun b9 o10=>stK H b9 o10 [(I v3),(I v4)] (fun H11=>idxK x0 x3 2 (fun b12 o13=>stK H11 b12 o13 [(I v7),(I v8)] (fun H14=>B13 P x0 x1 x2 x4 H14))))))))))
theorem q14 (P:PT):QD Tryz.prog T0 90 o14 [(0,false),(1,false),(2,false),(3,false),(4,false),(5,false),(6,false),(7,false),(8,false),(9,false),(10,false),(11,false),(12,false),(13,false),(14,false),(15,false)] (En 90 k2 (B13 P)) k3 (B14 P):=fun _ _ _ _ _ _ _  => by kernel_rfl
def B15 (P:PT):Y k3:=fun x0 x1 x2 x3 x4 H=>
  B14 P x0 x1 x2 x3 x4 H
def code:Code:=(.seq (R 0 2) (.seq (.region 1 ⟨o14⟩ true) (.seq (R 2 14) (.seq (.block 0 (.loop (.block 1 (.seq (.block 2 (.loop (.seq (.seq (.region 3 ⟨o12⟩ true) (.cond (.tmp 47) .skip (.exit 2))) (.block 3 (R 4 7682))))) (.seq (.block 4 (.loop (.seq (.seq (.region 5 ⟨o9⟩ true) (.cond (.tmp 65) .skip (.exit 4))) (.block 5 (R 6 15394))))) (.seq (.seq (R 7 3852) (.cond (.tmp 70) (.exit 0) .skip)) (.seq (.region 8 ⟨o5⟩ true) (.seq (R 9 7710) (R 10 7711))))))))) (.seq (R 11 62) .ret)))))
theorem body:Tryz.f222.body=some code:=by kernel_rfl
theorem main P:Z 90 k3 (B15 P) code (ret P):=
  (r_seq (b (E k3 (B14 P))) (r_seq (rD T0_ok mixed [(0,false),(1,false),(2,false),(3,false),(4,false),(5,false),(6,false),(7,false),(8,false),(9,false),(10,false),(11,false),(12,false),(13,false),(14,false),(15,false)] (by kernel_rfl) (q14 P)) (r_seq (b (E k1 (L2 P))) (r_seq (r_block (rL (l2 P) (fun N2=>(r_block (r_seq (r_block (rL (l10 P N2) (fun N10=>(r_seq (r_seq (rD T0_ok mixed [(0,false),(1,false),(2,false),(3,false),(4,false),(5,false),(6,false),(7,false),(8,false),(9,false),(10,false),(11,false),(12,false),(13,false),(14,false),(15,false),(16,false)] (by kernel_rfl) (q12 P N2 N10)) (r_cond rfl r_skip (r_exit (fun _ _ h=>h)))) (r_block (b (E k1 N10))))))) (r_seq (r_block (rL (l7 P N2) (fun N7=>(r_seq (r_seq (rD T0_ok mixed [(0,false),(1,false),(2,false),(3,false),(4,false),(5,false),(6,false),(7,false),(8,false),(9,false),(10,false),(11,false),(12,false),(13,false),(14,false),(15,false)] (by kernel_rfl) (q9 P N2 N7)) (r_cond rfl r_skip (r_exit (fun _ _ h=>h)))) (r_block (b (E k1 N7))))))) (r_seq (r_seq (b (cnd 70 (E k0 (B1 P)) (E k1 (B5 P N2)))) (r_cond rfl (r_exit (fun _ _ h=>h)) r_skip)) (r_seq (rD T0_ok mixed [(0,false),(1,false),(2,false),(3,false),(4,false),(5,false),(6,false),(7,false),(8,false),(9,false),(10,false),(11,false),(12,false),(13,false),(14,false),(15,false)] (by kernel_rfl) (q5 P N2)) (r_seq (b (E k1 (B3 P N2))) (b (E k1 N2))))))))))) (r_seq (b (ret P)) r_ret)))))
theorem ac (P:PT) (x0:Value) (x1 x2 x3:Int) (x4:Value) (H:AHeap) (h:B15 P x0 x1 x2 x3 x4 H):A 222 [x0,(I x1),(I x2),(I x3),x4] H P:=
  r_fn T0_ok (c:=code) (n:=90) Tryz.func222 body (by kernel_rfl) (main P) (En_mk (x0,x1,x2,x3,x4,()) (by kernel_rfl) ⟨by kernel_rfl,by kernel_rfl,by kernel_rfl,by kernel_rfl,by kernel_rfl,trivial⟩ h)

end F222
namespace F223
abbrev E:=En 178
def O (k:Nat):=ob Tryz.f223 (pth k)
abbrev R (i k:Nat):Code:=.region i ⟨O k⟩ false
def ret (P:PT):EP:=retE T0 178 Tryz.f223 P
abbrev k0:Sk:=[(13,J)]
def B1 (P:PT):Y k0:=fun x13 H=>
  P (tuple ⟨[(I x13),(bool false)]⟩) H
abbrev k1:Sk:=[(0,.v),(1,J),(13,J)]
def o2:=O 4094
def B2 (P:PT):Y k1:=fun x0 x1 x13 H=>
  idxK x0 x1 2 (fun b1 o2=>li H b1 o2 (fun v3=>li H b1 (o2+1) (fun v4=>idxK x0 x13 2 (fun b5 o6=>li H b5 o6 (fun v7=>li H b5 (o6+1) (fun v8=>idxK x0 x13 2 (fun b9 o10=>stK H b9 o10 [(I v3),(I v4)] (fun H11=>idxK x0 x1 2 (fun b12 o13=>stK H11 b12 o13 [(I v7),(I v8)] (fun H14=>B1 P x13 H14))))))))))
theorem q2 (P:PT):QD Tryz.prog T0 178 o2 [(0,false),(1,false),(2,false),(3,false),(4,false),(5,false),(6,false),(7,false),(8,false),(9,false),(10,false),(11,false),(12,false),(13,false),(14,false),(15,false)] (En 178 k0 (B1 P)) k1 (B2 P):=fun _ _ _ _ _  => by kernel_rfl
abbrev k2:Sk:=[(0,.v),(1,J),(4,.v),(12,J),(13,J)]
def B4 (P:PT) (N3:Y k2):Y k2:=fun x0 x1 x4 x12 x13 H=>
  N3 x0 x1 x4 x12 (i64.wrap (x13-1)) H
def B5 (P:PT) (N3:Y k2):Y k2:=fun x0 x1 x4 x12 x13 H=>
  B4 P N3 x0 x1 x4 (i64.wrap (x12+1)) x13 H
def o6:=O 261902
def B6 (P:PT) (N3:Y k2):Y k2:=fun x0 x1 x4 x12 x13 H=>
  idxK x0 x13 2 (fun b1 o2=>li H b1 o2 (fun v3=>li H b1 (o2+1) (fun v4=>idxK x0 x12 2 (fun b5 o6=>li H b5 o6 (fun v7=>li H b5 (o6+1) (fun v8=>idxK x0 x12 2 (fun b9 o10=>stK H b9 o10 [(I v3),(I v4)] (fun H11=>idxK x0 x13 2 (fun b12 o13=>stK H11 b12 o13 [(I v7),(I v8)] (fun H14=>B5 P N3 x0 x1 x4 x12 x13 H14))))))))))
theorem q6 (P:PT) (N3:Y k2):QD Tryz.prog T0 178 o6 [(0,false),(1,false),(2,false),(3,false),(4,false),(5,false),(6,false),(7,false),(8,false),(9,false),(10,false),(11,false),(12,false),(13,false),(14,false),(15,false)] (En 178 k2 (B5 P N3)) k2 (B6 P N3):=fun _ _ _ _ _ _ _  => by kernel_rfl
def B7 (P:PT) (N3:Y k2):Y k2:=fun x0 x1 x4 x12 x13 H=>
  pif (decide ((x12:Int)>x13)) (B2 P x0 x1 x13 H) (B6 P N3 x0 x1 x4 x12 x13 H)
def B9 (P:PT) (N3:Y k2) (N8:Y k2):Y k2:=fun x0 x1 x4 x12 x13 H=>
  N8 x0 x1 x4 x12 (i64.wrap (x13-1)) H
def o10:=O 1047584
def B10 (P:PT) (N3:Y k2) (N8:Y k2):Y k2:=fun x0 x1 x4 x12 x13 H=>
  pif (decide ((x12:Int)≤x13)) (idxK x0 x13 2 (fun b1 o2=>li H b1 o2 (fun v3=>li H b1 (o2+1) (fun v4=>idxK x0 x1 2 (fun b5 o6=>li H b5 o6 (fun v7=>li H b5 (o6+1) (fun v8=>callV Tryz.prog T0 x4 [(agg ⟨[(I v3),(I v4)]⟩),(agg ⟨[(I v7),(I v8)]⟩)] H (fun v9 H10=>asI .i64 v9 (fun v11=>pif (!(decide ((v11:Int)<0))) (B9 P N3 N8 x0 x1 x4 x12 x13 H10) (B7 P N3 x0 x1 x4 x12 x13 H10)))))))))) (B7 P N3 x0 x1 x4 x12 x13 H)
theorem q10 (P:PT) (N3:Y k2) (N8:Y k2):QD Tryz.prog T0 178 o10 [(0,false),(1,false),(2,false),(3,false),(4,false),(5,false),(6,false),(7,false),(8,false),(9,false),(10,false),(11,false),(12,false),(13,false),(14,false),(15,false),(16,false)] (cnd 139 (En 178 k2 (B9 P N3 N8)) (En 178 k2 (B7 P N3))) k2 (B10 P N3 N8):=fun _ _ _ _ _ _ _  => by kernel_rfl
def L8 (P:PT) (N3:Y k2):Y k2:=fun x0 x1 x4 x12 x13 H=>
  ∃ (I:Y k2) (μ:NTy k2 (AHeap→Nat)),I x0 x1 x4 x12 x13 H∧∀ y0 y1 y4 y12 y13 G,I y0 y1 y4 y12 y13 G→B10 P N3 (fun z0 z1 z4 z12 z13 G'=>I z0 z1 z4 z12 z13 G'∧μ z0 z1 z4 z12 z13 G'<μ y0 y1 y4 y12 y13 G) y0 y1 y4 y12 y13 G
theorem l8 P N3:LQ k2 (L8 P N3) (B10 P N3):=fun ⟨_,_,_,_,_,_⟩ _ ⟨I,μ,h0,hI⟩=>⟨apT _ I,apT _ μ,h0,fun ⟨_,_,_,_,_,_⟩ _ h=>hI _ _ _ _ _ _  h⟩
def B12 (P:PT) (N3:Y k2) (N11:Y k2):Y k2:=fun x0 x1 x4 x12 x13 H=>
  N11 x0 x1 x4 (i64.wrap (x12+1)) x13 H
def o13:=O 523776
def B13 (P:PT) (N3:Y k2) (N11:Y k2):Y k2:=fun x0 x1 x4 x12 x13 H=>
  pif (decide ((x12:Int)≤x13)) (idxK x0 x12 2 (fun b1 o2=>li H b1 o2 (fun v3=>li H b1 (o2+1) (fun v4=>idxK x0 x1 2 (fun b5 o6=>li H b5 o6 (fun v7=>li H b5 (o6+1) (fun v8=>callV Tryz.prog T0 x4 [(agg ⟨[(I v3),(I v4)]⟩),(agg ⟨[(I v7),(I v8)]⟩)] H (fun v9 H10=>asI .i64 v9 (fun v11=>pif (decide ((v11:Int)<0)) (B12 P N3 N11 x0 x1 x4 x12 x13 H10) (L8 P N3 x0 x1 x4 x12 x13 H10)))))))))) (L8 P N3 x0 x1 x4 x12 x13 H)
theorem q13 (P:PT) (N3:Y k2) (N11:Y k2):QD Tryz.prog T0 178 o13 [(0,false),(1,false),(2,false),(3,false),(4,false),(5,false),(6,false),(7,false),(8,false),(9,false),(10,false),(11,false),(12,false),(13,false),(14,false),(15,false)] (cnd 120 (En 178 k2 (B12 P N3 N11)) (En 178 k2 (L8 P N3))) k2 (B13 P N3 N11):=fun _ _ _ _ _ _ _  => by kernel_rfl
def L11 (P:PT) (N3:Y k2):Y k2:=fun x0 x1 x4 x12 x13 H=>
  ∃ (I:Y k2) (μ:NTy k2 (AHeap→Nat)),I x0 x1 x4 x12 x13 H∧∀ y0 y1 y4 y12 y13 G,I y0 y1 y4 y12 y13 G→B13 P N3 (fun z0 z1 z4 z12 z13 G'=>I z0 z1 z4 z12 z13 G'∧μ z0 z1 z4 z12 z13 G'<μ y0 y1 y4 y12 y13 G) y0 y1 y4 y12 y13 G
theorem l11 P N3:LQ k2 (L11 P N3) (B13 P N3):=fun ⟨_,_,_,_,_,_⟩ _ ⟨I,μ,h0,hI⟩=>⟨apT _ I,apT _ μ,h0,fun ⟨_,_,_,_,_,_⟩ _ h=>hI _ _ _ _ _ _  h⟩
def L3 (P:PT):Y k2:=fun x0 x1 x4 x12 x13 H=>
  ∃ (I:Y k2) (μ:NTy k2 (AHeap→Nat)),I x0 x1 x4 x12 x13 H∧∀ y0 y1 y4 y12 y13 G,I y0 y1 y4 y12 y13 G→L11 P (fun z0 z1 z4 z12 z13 G'=>I z0 z1 z4 z12 z13 G'∧μ z0 z1 z4 z12 z13 G'<μ y0 y1 y4 y12 y13 G) y0 y1 y4 y12 y13 G
theorem l3 P:LQ k2 (L3 P) (L11 P):=fun ⟨_,_,_,_,_,_⟩ _ ⟨I,μ,h0,hI⟩=>⟨apT _ I,apT _ μ,h0,fun ⟨_,_,_,_,_,_⟩ _ h=>hI _ _ _ _ _ _  h⟩
def B14 (P:PT):Y k2:=fun x0 x1 x4 x12 x13 H=>
  L3 P x0 x1 x4 x12 (i64.wrap (x13-1)) H
def B15 (P:PT):Y k2:=fun x0 x1 x4 x12 x13 H=>
  B14 P x0 x1 x4 (i64.wrap (x12+1)) x13 H
def o16:=O 254
def B16 (P:PT):Y k2:=fun x0 x1 x4 x12 x13 H=>
  idxK x0 x13 2 (fun b1 o2=>li H b1 o2 (fun v3=>li H b1 (o2+1) (fun v4=>idxK x0 x12 2 (fun b5 o6=>li H b5 o6 (fun v7=>li H b5 (o6+1) (fun v8=>idxK x0 x12 2 (fun b9 o10=>stK H b9 o10 [(I v3),(I v4)] (fun H11=>idxK x0 x13 2 (fun b12 o13=>stK H11 b12 o13 [(I v7),(I v8)] (fun H14=>B15 P x0 x1 x4 x12 x13 H14))))))))))
theorem q16 (P:PT):QD Tryz.prog T0 178 o16 [(0,false),(1,false),(2,false),(3,false),(4,false),(5,false),(6,false),(7,false),(8,false),(9,false),(10,false),(11,false),(12,false),(13,false),(14,false),(15,false)] (En 178 k2 (B15 P)) k2 (B16 P):=fun _ _ _ _ _ _ _  => by kernel_rfl
def B17 (P:PT):Y k0:=fun x13 H=>
  P (tuple ⟨[(I x13),(bool true)]⟩) H
def o18:=O 1012
def B18 (P:PT):Y k1:=fun x0 x1 x13 H=>
  idxK x0 x1 2 (fun b1 o2=>li H b1 o2 (fun v3=>li H b1 (o2+1) (fun v4=>idxK x0 x13 2 (fun b5 o6=>li H b5 o6 (fun v7=>li H b5 (o6+1) (fun v8=>idxK x0 x13 2 (fun b9 o10=>stK H b9 o10 [(I v3),(I v4)] (fun H11=>idxK x0 x1 2 (fun b12 o13=>stK H11 b12 o13 [(I v7),(I v8)] (fun H14=>B17 P x13 H14))))))))))
theorem q18 (P:PT):QD Tryz.prog T0 178 o18 [(0,false),(1,false),(2,false),(3,false),(4,false),(5,false),(6,false),(7,false),(8,false),(9,false),(10,false),(11,false),(12,false),(13,false),(14,false),(15,false)] (En 178 k0 (B17 P)) k1 (B18 P):=fun _ _ _ _ _  => by kernel_rfl
def B19 (P:PT):Y k2:=fun x0 x1 x4 x12 x13 H=>
  pif (decide ((x12:Int)>x13)) (B18 P x0 x1 x13 H) (B16 P x0 x1 x4 x12 x13 H)
def B21 (P:PT) (N20:Y k2):Y k2:=fun x0 x1 x4 x12 x13 H=>
  N20 x0 x1 x4 x12 (i64.wrap (x13-1)) H
def o22:=O 992
def B22 (P:PT) (N20:Y k2):Y k2:=fun x0 x1 x4 x12 x13 H=>
  pif (decide ((x12:Int)≤x13)) (idxK x0 x13 2 (fun b1 o2=>li H b1 o2 (fun v3=>li H b1 (o2+1) (fun v4=>idxK x0 x1 2 (fun b5 o6=>li H b5 o6 (fun v7=>li H b5 (o6+1) (fun v8=>callV Tryz.prog T0 x4 [(agg ⟨[(I v3),(I v4)]⟩),(agg ⟨[(I v7),(I v8)]⟩)] H (fun v9 H10=>asI .i64 v9 (fun v11=>pif (!(decide ((v11:Int)<0))) (B21 P N20 x0 x1 x4 x12 x13 H10) (B19 P x0 x1 x4 x12 x13 H10)))))))))) (B19 P x0 x1 x4 x12 x13 H)
theorem q22 (P:PT) (N20:Y k2):QD Tryz.prog T0 178 o22 [(0,false),(1,false),(2,false),(3,false),(4,false),(5,false),(6,false),(7,false),(8,false),(9,false),(10,false),(11,false),(12,false),(13,false),(14,false),(15,false),(16,false)] (cnd 66 (En 178 k2 (B21 P N20)) (En 178 k2 (B19 P))) k2 (B22 P N20):=fun _ _ _ _ _ _ _  => by kernel_rfl
def L20 (P:PT):Y k2:=fun x0 x1 x4 x12 x13 H=>
  ∃ (I:Y k2) (μ:NTy k2 (AHeap→Nat)),I x0 x1 x4 x12 x13 H∧∀ y0 y1 y4 y12 y13 G,I y0 y1 y4 y12 y13 G→B22 P (fun z0 z1 z4 z12 z13 G'=>I z0 z1 z4 z12 z13 G'∧μ z0 z1 z4 z12 z13 G'<μ y0 y1 y4 y12 y13 G) y0 y1 y4 y12 y13 G
theorem l20 P:LQ k2 (L20 P) (B22 P):=fun ⟨_,_,_,_,_,_⟩ _ ⟨I,μ,h0,hI⟩=>⟨apT _ I,apT _ μ,h0,fun ⟨_,_,_,_,_,_⟩ _ h=>hI _ _ _ _ _ _  h⟩
def B24 (P:PT) (N23:Y k2):Y k2:=fun x0 x1 x4 x12 x13 H=>
  N23 x0 x1 x4 (i64.wrap (x12+1)) x13 H
def o25:=O 480
def B25 (P:PT) (N23:Y k2):Y k2:=fun x0 x1 x4 x12 x13 H=>
  pif (decide ((x12:Int)≤x13)) (idxK x0 x12 2 (fun b1 o2=>li H b1 o2 (fun v3=>li H b1 (o2+1) (fun v4=>idxK x0 x1 2 (fun b5 o6=>li H b5 o6 (fun v7=>li H b5 (o6+1) (fun v8=>callV Tryz.prog T0 x4 [(agg ⟨[(I v3),(I v4)]⟩),(agg ⟨[(I v7),(I v8)]⟩)] H (fun v9 H10=>asI .i64 v9 (fun v11=>pif (decide ((v11:Int)<0)) (B24 P N23 x0 x1 x4 x12 x13 H10) (L20 P x0 x1 x4 x12 x13 H10)))))))))) (L20 P x0 x1 x4 x12 x13 H)
theorem q25 (P:PT) (N23:Y k2):QD Tryz.prog T0 178 o25 [(0,false),(1,false),(2,false),(3,false),(4,false),(5,false),(6,false),(7,false),(8,false),(9,false),(10,false),(11,false),(12,false),(13,false),(14,false),(15,false)] (cnd 47 (En 178 k2 (B24 P N23)) (En 178 k2 (L20 P))) k2 (B25 P N23):=fun _ _ _ _ _ _ _  => by kernel_rfl
def L23 (P:PT):Y k2:=fun x0 x1 x4 x12 x13 H=>
  ∃ (I:Y k2) (μ:NTy k2 (AHeap→Nat)),I x0 x1 x4 x12 x13 H∧∀ y0 y1 y4 y12 y13 G,I y0 y1 y4 y12 y13 G→B25 P (fun z0 z1 z4 z12 z13 G'=>I z0 z1 z4 z12 z13 G'∧μ z0 z1 z4 z12 z13 G'<μ y0 y1 y4 y12 y13 G) y0 y1 y4 y12 y13 G
theorem l23 P:LQ k2 (L23 P) (B25 P):=fun ⟨_,_,_,_,_,_⟩ _ ⟨I,μ,h0,hI⟩=>⟨apT _ I,apT _ μ,h0,fun ⟨_,_,_,_,_,_⟩ _ h=>hI _ _ _ _ _ _  h⟩
abbrev k3:Sk:=[(0,.v),(1,J),(2,J),(4,.v)]
def B26 (P:PT):Y k3:=fun x0 x1 x2 x4 H=>
  L23 P x0 x1 x4 (i64.wrap (x1+1)) (i64.wrap (x2-1)) H
abbrev k4:Sk:=[(0,.v),(1,J),(2,J),(3,J),(4,.v)]
def o27:=O 6
def B27 (P:PT):Y k4:=fun x0 x1 x2 x3 x4 H=>
  idxK x0 x3 2 (fun b1 o2=>li H b1 o2 (fun v3=>li H b1 (o2+1) (fun v4=>idxK x0 x1 2 (fun b5 o6=>li H b5 o6 (fun v7=>li H b5 (o6+1) (fun v8=>idxK x0 x1 2 (fun b9 o10=>stK H b9 o10 [(I v3),(I v4)] (fun H11=>idxK x0 x3 2 (fun b12 o13=>stK H11 b12 o13 [(I v7),(I v8)] (fun H14=>B26 P x0 x1 x2 x4 H14))))))))))
theorem q27 (P:PT):QD Tryz.prog T0 178 o27 [(0,false),(1,false),(2,false),(3,false),(4,false),(5,false),(6,false),(7,false),(8,false),(9,false),(10,false),(11,false),(12,false),(13,false),(14,false),(15,false)] (En 178 k3 (B26 P)) k4 (B27 P):=fun _ _ _ _ _ _ _  => by kernel_rfl
def B28 (P:PT):Y k4:=fun x0 x1 x2 x3 x4 H=>
  B27 P x0 x1 x2 x3 x4 H
def code:Code:=(.seq (R 0 2) (.seq (.region 1 ⟨o27⟩ true) (.seq (R 2 14) (.seq (.block 0 (.loop (.seq (.seq (.region 3 ⟨o25⟩ true) (.cond (.tmp 47) .skip (.exit 0))) (.block 1 (R 4 482))))) (.seq (.block 2 (.loop (.seq (.seq (.region 5 ⟨o22⟩ true) (.cond (.tmp 66) .skip (.exit 2))) (.block 3 (R 6 994))))) (.seq (.seq (R 7 252) (.cond (.tmp 71) (.seq (.region 8 ⟨o18⟩ true) (.seq (R 9 2026) .ret)) .skip)) (.seq (.region 10 ⟨o16⟩ true) (.seq (R 11 510) (.seq (R 12 1022) (.seq (.block 4 (.loop (.block 5 (.seq (.block 6 (.loop (.seq (.seq (.region 13 ⟨o13⟩ true) (.cond (.tmp 120) .skip (.exit 6))) (.block 7 (R 14 523778))))) (.seq (.block 8 (.loop (.seq (.seq (.region 15 ⟨o10⟩ true) (.cond (.tmp 139) .skip (.exit 8))) (.block 9 (R 16 1047586))))) (.seq (.seq (R 17 261900) (.cond (.tmp 144) (.exit 4) .skip)) (.seq (.region 18 ⟨o6⟩ true) (.seq (R 19 523806) (R 20 523807))))))))) (.seq (.region 21 ⟨o2⟩ true) (.seq (R 22 8190) .ret))))))))))))
theorem body:Tryz.f223.body=some code:=by kernel_rfl
theorem main P:Z 178 k4 (B28 P) code (ret P):=
  (r_seq (b (E k4 (B27 P))) (r_seq (rD T0_ok mixed [(0,false),(1,false),(2,false),(3,false),(4,false),(5,false),(6,false),(7,false),(8,false),(9,false),(10,false),(11,false),(12,false),(13,false),(14,false),(15,false)] (by kernel_rfl) (q27 P)) (r_seq (b (E k2 (L23 P))) (r_seq (r_block (rL (l23 P) (fun N23=>(r_seq (r_seq (rD T0_ok mixed [(0,false),(1,false),(2,false),(3,false),(4,false),(5,false),(6,false),(7,false),(8,false),(9,false),(10,false),(11,false),(12,false),(13,false),(14,false),(15,false)] (by kernel_rfl) (q25 P N23)) (r_cond rfl r_skip (r_exit (fun _ _ h=>h)))) (r_block (b (E k2 N23))))))) (r_seq (r_block (rL (l20 P) (fun N20=>(r_seq (r_seq (rD T0_ok mixed [(0,false),(1,false),(2,false),(3,false),(4,false),(5,false),(6,false),(7,false),(8,false),(9,false),(10,false),(11,false),(12,false),(13,false),(14,false),(15,false),(16,false)] (by kernel_rfl) (q22 P N20)) (r_cond rfl r_skip (r_exit (fun _ _ h=>h)))) (r_block (b (E k2 N20))))))) (r_seq (r_seq (b (cnd 71 (E k1 (B18 P)) (E k2 (B16 P)))) (r_cond rfl (r_seq (rD T0_ok mixed [(0,false),(1,false),(2,false),(3,false),(4,false),(5,false),(6,false),(7,false),(8,false),(9,false),(10,false),(11,false),(12,false),(13,false),(14,false),(15,false)] (by kernel_rfl) (q18 P)) (r_seq (b (ret P)) r_ret)) r_skip)) (r_seq (rD T0_ok mixed [(0,false),(1,false),(2,false),(3,false),(4,false),(5,false),(6,false),(7,false),(8,false),(9,false),(10,false),(11,false),(12,false),(13,false),(14,false),(15,false)] (by kernel_rfl) (q16 P)) (r_seq (b (E k2 (B14 P))) (r_seq (b (E k2 (L3 P))) (r_seq (r_block (rL (l3 P) (fun N3=>(r_block (r_seq (r_block (rL (l11 P N3) (fun N11=>(r_seq (r_seq (rD T0_ok mixed [(0,false),(1,false),(2,false),(3,false),(4,false),(5,false),(6,false),(7,false),(8,false),(9,false),(10,false),(11,false),(12,false),(13,false),(14,false),(15,false)] (by kernel_rfl) (q13 P N3 N11)) (r_cond rfl r_skip (r_exit (fun _ _ h=>h)))) (r_block (b (E k2 N11))))))) (r_seq (r_block (rL (l8 P N3) (fun N8=>(r_seq (r_seq (rD T0_ok mixed [(0,false),(1,false),(2,false),(3,false),(4,false),(5,false),(6,false),(7,false),(8,false),(9,false),(10,false),(11,false),(12,false),(13,false),(14,false),(15,false),(16,false)] (by kernel_rfl) (q10 P N3 N8)) (r_cond rfl r_skip (r_exit (fun _ _ h=>h)))) (r_block (b (E k2 N8))))))) (r_seq (r_seq (b (cnd 144 (E k1 (B2 P)) (E k2 (B6 P N3)))) (r_cond rfl (r_exit (fun _ _ h=>h)) r_skip)) (r_seq (rD T0_ok mixed [(0,false),(1,false),(2,false),(3,false),(4,false),(5,false),(6,false),(7,false),(8,false),(9,false),(10,false),(11,false),(12,false),(13,false),(14,false),(15,false)] (by kernel_rfl) (q6 P N3)) (r_seq (b (E k2 (B4 P N3))) (b (E k2 N3))))))))))) (r_seq (rD T0_ok mixed [(0,false),(1,false),(2,false),(3,false),(4,false),(5,false),(6,false),(7,false),(8,false),(9,false),(10,false),(11,false),(12,false),(13,false),(14,false),(15,false)] (by kernel_rfl) (q2 P)) (r_seq (b (ret P)) r_ret))))))))))))
theorem ac (P:PT) (x0:Value) (x1 x2 x3:Int) (x4:Value) (H:AHeap) (h:B28 P x0 x1 x2 x3 x4 H):A 223 [x0,(I x1),(I x2),(I x3),x4] H P:=
  r_fn T0_ok (c:=code) (n:=178) Tryz.func223 body (by kernel_rfl) (main P) (En_mk (x0,x1,x2,x3,x4,()) (by kernel_rfl) ⟨by kernel_rfl,by kernel_rfl,by kernel_rfl,by kernel_rfl,by kernel_rfl,trivial⟩ h)

end F223
namespace F225
abbrev E:=En 51
def O (k:Nat):=ob Tryz.f225 (pth k)
abbrev R (i k:Nat):Code:=.region i ⟨O k⟩ false
def ret (P:PT):EP:=retE T0 51 Tryz.f225 P
abbrev k0:Sk:=[(0,.i .u64),(1,.i .u64),(4,.i .u64)]
def B1 (P:PT):Y k0:=fun x0 x1 x4 H=>
  P (tuple ⟨[(int .u64 x4),(int .u64 (u64.wrap (x0*x1)))]⟩) H
abbrev k1:Sk:=[(0,.i .u64),(1,.i .u64),(7,.i .u64),(9,.i .u64),(12,.i .u64),(13,.i .u64)]
def B2 (P:PT):Y k1:=fun x0 x1 x7 x9 x12 x13 H=>
  ((0:Int)≤32)∧(B1 P x0 x1 (u64.wrap ((u64.wrap ((u64.wrap (x7*x9))+x13))+(Int.fdiv x12 (2^(min (Int.toNat 32) 64))))) H)
abbrev k2:Sk:=[(0,.i .u64),(1,.i .u64),(6,.i .u64),(7,.i .u64),(9,.i .u64),(12,.i .u64),(13,.i .u64)]
def B3 (P:PT):Y k2:=fun x0 x1 x6 x7 x9 x12 x13 H=>
  B2 P x0 x1 x7 x9 (u64.wrap (x12+(u64.wrap (x6*x9)))) x13 H
abbrev k3:Sk:=[(0,.i .u64),(1,.i .u64),(6,.i .u64),(7,.i .u64),(9,.i .u64),(11,.i .u64),(12,.i .u64)]
def B4 (P:PT):Y k3:=fun x0 x1 x6 x7 x9 x11 x12 H=>
  ((0:Int)≤32)∧(B3 P x0 x1 x6 x7 x9 x12 (Int.fdiv x11 (2^(min (Int.toNat 32) 64))) H)
abbrev k4:Sk:=[(0,.i .u64),(1,.i .u64),(6,.i .u64),(7,.i .u64),(9,.i .u64),(11,.i .u64)]
def B5 (P:PT):Y k4:=fun x0 x1 x6 x7 x9 x11 H=>
  B4 P x0 x1 x6 x7 x9 x11 (u64.wrap (BitVec.ofInt 64 x11&&&BitVec.ofInt 64 4294967295).toNat) H
abbrev k5:Sk:=[(0,.i .u64),(1,.i .u64),(6,.i .u64),(7,.i .u64),(8,.i .u64),(9,.i .u64),(10,.i .u64)]
def B6 (P:PT):Y k5:=fun x0 x1 x6 x7 x8 x9 x10 H=>
  ((0:Int)≤32)∧(B5 P x0 x1 x6 x7 x9 (u64.wrap ((u64.wrap (x7*x8))+(Int.fdiv x10 (2^(min (Int.toNat 32) 64))))) H)
abbrev k6:Sk:=[(0,.i .u64),(1,.i .u64),(6,.i .u64),(7,.i .u64),(8,.i .u64),(9,.i .u64)]
def B7 (P:PT):Y k6:=fun x0 x1 x6 x7 x8 x9 H=>
  B6 P x0 x1 x6 x7 x8 x9 (u64.wrap (x6*x8)) H
abbrev k7:Sk:=[(0,.i .u64),(1,.i .u64),(6,.i .u64),(7,.i .u64),(8,.i .u64)]
def B8 (P:PT):Y k7:=fun x0 x1 x6 x7 x8 H=>
  ((0:Int)≤32)∧(B7 P x0 x1 x6 x7 x8 (Int.fdiv x1 (2^(min (Int.toNat 32) 64))) H)
abbrev k8:Sk:=[(0,.i .u64),(1,.i .u64),(6,.i .u64),(7,.i .u64)]
def B9 (P:PT):Y k8:=fun x0 x1 x6 x7 H=>
  B8 P x0 x1 x6 x7 (u64.wrap (BitVec.ofInt 64 x1&&&BitVec.ofInt 64 4294967295).toNat) H
abbrev k9:Sk:=[(0,.i .u64),(1,.i .u64),(6,.i .u64)]
def B10 (P:PT):Y k9:=fun x0 x1 x6 H=>
  ((0:Int)≤32)∧(B9 P x0 x1 x6 (Int.fdiv x0 (2^(min (Int.toNat 32) 64))) H)
abbrev k10:Sk:=[(0,.i .u64),(1,.i .u64)]
def B11 (P:PT):Y k10:=fun x0 x1 H=>
  B10 P x0 x1 (u64.wrap (BitVec.ofInt 64 x0&&&BitVec.ofInt 64 4294967295).toNat) H
def B12 (P:PT):Y k10:=fun x0 x1 H=>
  B11 P x0 x1 H
def code:Code:=(.seq (R 0 2) (.seq (R 1 6) (.seq (R 2 14) (.seq (R 3 30) (.seq (R 4 62) (.seq (R 5 126) (.seq (R 6 254) (.seq (R 7 510) (.seq (R 8 1022) (.seq (R 9 2046) (.seq (R 10 4094) (.seq (R 11 8190) .ret))))))))))))
theorem body:Tryz.f225.body=some code:=by kernel_rfl
theorem main P:Z 51 k10 (B12 P) code (ret P):=
  (r_seq (b (E k10 (B11 P))) (r_seq (b (E k9 (B10 P))) (r_seq (b (E k8 (B9 P))) (r_seq (b (E k7 (B8 P))) (r_seq (b (E k6 (B7 P))) (r_seq (b (E k5 (B6 P))) (r_seq (b (E k4 (B5 P))) (r_seq (b (E k3 (B4 P))) (r_seq (b (E k2 (B3 P))) (r_seq (b (E k1 (B2 P))) (r_seq (b (E k0 (B1 P))) (r_seq (b (ret P)) r_ret))))))))))))
theorem ac (P:PT) (x0 x1:Int) (H:AHeap) (h:B12 P x0 x1 H):A 225 [(int .u64 x0),(int .u64 x1)] H P:=
  r_fn T0_ok (c:=code) (n:=51) Tryz.func225 body (by kernel_rfl) (main P) (En_mk (x0,x1,()) (by kernel_rfl) ⟨by kernel_rfl,by kernel_rfl,trivial⟩ h)

end F225
namespace F227
abbrev E:=En 82
def O (k:Nat):=ob Tryz.f227 (pth k)
abbrev R (i k:Nat):Code:=.region i ⟨O k⟩ false
def ret (P:PT):EP:=retE T0 82 Tryz.f227 P
abbrev k0:Sk:=[(0,.v),(2,J),(3,J),(4,.v),(10,J)]
abbrev k1:Sk:=[(0,.v),(2,J),(3,J),(4,.v),(11,J)]
def o2:=O 799
def B2 (P:PT) (N1:Y k0):Y k1:=fun x0 x2 x3 x4 x11 H=>
  N1 x0 x2 x3 x4 x11 H
abbrev k2:Sk:=[(0,.v),(2,J),(3,J),(4,.v),(10,J),(11,J)]
def o3:=O 798
def B3 (P:PT) (N1:Y k0):Y k2:=fun x0 x2 x3 x4 x10 x11 H=>
  idxK x0 (i64.wrap (x3+x11)) 2 (fun b1 o2=>li H b1 o2 (fun v3=>li H b1 (o2+1) (fun v4=>idxK x0 (i64.wrap (x3+x10)) 2 (fun b5 o6=>li H b5 o6 (fun v7=>li H b5 (o6+1) (fun v8=>idxK x0 (i64.wrap (x3+x10)) 2 (fun b9 o10=>stK H b9 o10 [(I v3),(I v4)] (fun H11=>idxK x0 (i64.wrap (x3+x11)) 2 (fun b12 o13=>stK H11 b12 o13 [(I v7),(I v8)] (fun H14=>B2 P N1 x0 x2 x3 x4 x11 H14))))))))))
theorem q3 (P:PT) (N1:Y k0):QD Tryz.prog T0 82 o3 [(0,false),(1,false),(2,false),(3,false),(4,false),(5,false),(6,false),(7,false),(8,false),(9,false),(10,false),(11,false),(12,false),(13,false),(14,false),(15,false),(16,false),(17,false),(18,false),(19,false),(20,false),(21,false),(22,false),(23,false)] (En 82 k1 (B2 P N1)) k2 (B3 P N1):=fun _ _ _ _ _ _ _ _  => by kernel_rfl
def o4:=O 796
def B4 (P:PT) (N1:Y k0):Y k2:=fun x0 x2 x3 x4 x10 x11 H=>
  idxK x0 (i64.wrap (x3+x10)) 2 (fun b1 o2=>li H b1 o2 (fun v3=>li H b1 (o2+1) (fun v4=>idxK x0 (i64.wrap (x3+x11)) 2 (fun b5 o6=>li H b5 o6 (fun v7=>li H b5 (o6+1) (fun v8=>callV Tryz.prog T0 x4 [(agg ⟨[(I v3),(I v4)]⟩),(agg ⟨[(I v7),(I v8)]⟩)] H (fun v9 H10=>asI .i64 v9 (fun v11=>pif (!(decide ((v11:Int)<0))) (P (tuple ⟨[]⟩) H10) (B3 P N1 x0 x2 x3 x4 x10 x11 H10)))))))))
theorem q4 (P:PT) (N1:Y k0):QD Tryz.prog T0 82 o4 [(0,false),(1,false),(2,false),(3,false),(4,false),(5,false),(6,false),(7,false),(8,false),(9,false),(10,false),(11,false),(12,false),(13,false),(14,false),(15,false)] (cnd 58 (ret P) (En 82 k2 (B3 P N1))) k2 (B4 P N1):=fun _ _ _ _ _ _ _ _  => by kernel_rfl
def B5 (P:PT) (N1:Y k0):Y k2:=fun x0 x2 x3 x4 x10 x11 H=>
  B4 P N1 x0 x2 x3 x4 x10 (i64.wrap (x11+1)) H
def o6:=O 396
def B6 (P:PT) (N1:Y k0):Y k2:=fun x0 x2 x3 x4 x10 x11 H=>
  pif (decide ((i64.wrap (x11+1):Int)<x2)) (idxK x0 (i64.wrap (x3+x11)) 2 (fun b1 o2=>li H b1 o2 (fun v3=>li H b1 (o2+1) (fun v4=>idxK x0 (i64.wrap ((i64.wrap (x3+x11))+1)) 2 (fun b5 o6=>li H b5 o6 (fun v7=>li H b5 (o6+1) (fun v8=>callV Tryz.prog T0 x4 [(agg ⟨[(I v3),(I v4)]⟩),(agg ⟨[(I v7),(I v8)]⟩)] H (fun v9 H10=>asI .i64 v9 (fun v11=>pif (decide ((v11:Int)<0)) (B5 P N1 x0 x2 x3 x4 x10 x11 H10) (B4 P N1 x0 x2 x3 x4 x10 x11 H10)))))))))) (B4 P N1 x0 x2 x3 x4 x10 x11 H)
theorem q6 (P:PT) (N1:Y k0):QD Tryz.prog T0 82 o6 [(0,false),(1,false),(2,false),(3,false),(4,false),(5,false),(6,false),(7,false),(8,false),(9,false),(10,false),(11,false),(12,false),(13,false),(14,false),(15,false),(16,false),(17,false),(18,false),(19,false),(20,false),(21,false)] (cnd 40 (En 82 k2 (B5 P N1)) (En 82 k2 (B4 P N1))) k2 (B6 P N1):=fun _ _ _ _ _ _ _ _  => by kernel_rfl
def B7 (P:PT) (N1:Y k0):Y k2:=fun x0 x2 x3 x4 x10 x11 H=>
  pif (decide ((x11:Int)≥x2)) (P (tuple ⟨[]⟩) H) (B6 P N1 x0 x2 x3 x4 x10 x11 H)
def B8 (P:PT) (N1:Y k0):Y k0:=fun x0 x2 x3 x4 x10 H=>
  B7 P N1 x0 x2 x3 x4 x10 (i64.wrap ((i64.wrap (2*x10))+1)) H
def L1 (P:PT):Y k0:=fun x0 x2 x3 x4 x10 H=>
  ∃ (I:Y k0) (μ:NTy k0 (AHeap→Nat)),I x0 x2 x3 x4 x10 H∧∀ y0 y2 y3 y4 y10 G,I y0 y2 y3 y4 y10 G→B8 P (fun z0 z2 z3 z4 z10 G'=>I z0 z2 z3 z4 z10 G'∧μ z0 z2 z3 z4 z10 G'<μ y0 y2 y3 y4 y10 G) y0 y2 y3 y4 y10 G
theorem l1 P:LQ k0 (L1 P) (B8 P):=fun ⟨_,_,_,_,_,_⟩ _ ⟨I,μ,h0,hI⟩=>⟨apT _ I,apT _ μ,h0,fun ⟨_,_,_,_,_,_⟩ _ h=>hI _ _ _ _ _ _  h⟩
abbrev k3:Sk:=[(0,.v),(1,J),(2,J),(3,J),(4,.v)]
def B9 (P:PT):Y k3:=fun x0 x1 x2 x3 x4 H=>
  L1 P x0 x2 x3 x4 x1 H
def code:Code:=(.seq (R 0 2) (.block 0 (.loop (.block 1 (.seq (R 1 48) (.seq (.seq (R 2 196) (.cond (.tmp 18) (.exit 0) .skip)) (.seq (.seq (.region 3 ⟨o6⟩ true) (.cond (.tmp 40) (R 4 794) .skip)) (.seq (.seq (.region 5 ⟨o4⟩ true) (.cond (.tmp 58) .ret .skip)) (.seq (.region 6 ⟨o3⟩ true) (R 7 799))))))))))
theorem body:Tryz.f227.body=some code:=by kernel_rfl
theorem main P:Z 82 k3 (B9 P) code (ret P):=
  (r_seq (b (E k0 (L1 P))) (r_block (rL (l1 P) (fun N1=>(r_block (r_seq (b (E k2 (B7 P N1))) (r_seq (r_seq (b (cnd 18 (ret P) (E k2 (B6 P N1)))) (r_cond rfl (r_exit (fun _ _ h=>h)) r_skip)) (r_seq (r_seq (rD T0_ok mixed [(0,false),(1,false),(2,false),(3,false),(4,false),(5,false),(6,false),(7,false),(8,false),(9,false),(10,false),(11,false),(12,false),(13,false),(14,false),(15,false),(16,false),(17,false),(18,false),(19,false),(20,false),(21,false)] (by kernel_rfl) (q6 P N1)) (r_cond rfl (b (E k2 (B4 P N1))) r_skip)) (r_seq (r_seq (rD T0_ok mixed [(0,false),(1,false),(2,false),(3,false),(4,false),(5,false),(6,false),(7,false),(8,false),(9,false),(10,false),(11,false),(12,false),(13,false),(14,false),(15,false)] (by kernel_rfl) (q4 P N1)) (r_cond rfl r_ret r_skip)) (r_seq (rD T0_ok mixed [(0,false),(1,false),(2,false),(3,false),(4,false),(5,false),(6,false),(7,false),(8,false),(9,false),(10,false),(11,false),(12,false),(13,false),(14,false),(15,false),(16,false),(17,false),(18,false),(19,false),(20,false),(21,false),(22,false),(23,false)] (by kernel_rfl) (q3 P N1)) (b (E k0 N1))))))))))))
theorem ac (P:PT) (x0:Value) (x1 x2 x3:Int) (x4:Value) (H:AHeap) (h:B9 P x0 x1 x2 x3 x4 H):A 227 [x0,(I x1),(I x2),(I x3),x4] H P:=
  r_fn T0_ok (c:=code) (n:=82) Tryz.func227 body (by kernel_rfl) (main P) (En_mk (x0,x1,x2,x3,x4,()) (by kernel_rfl) ⟨by kernel_rfl,by kernel_rfl,by kernel_rfl,by kernel_rfl,by kernel_rfl,trivial⟩ h)

end F227
namespace F228
abbrev E:=En 18
def O (k:Nat):=ob Tryz.f228 (pth k)
abbrev R (i k:Nat):Code:=.region i ⟨O k⟩ false
def ret (P:PT):EP:=retE T0 18 Tryz.f228 P
abbrev k0:Sk:=[(0,.v),(1,J),(2,.v),(3,.v)]
def B1 (P:PT):Y k0:=fun x0 x1 x2 x3 H=>
  A 229 [x0,(I (i64.wrap (x1-1))),(I x1),(I (i64.wrap (x1+1))),x2,x3] H (fun v1 H2=>asI .i64 v1 (fun v3=>P (I v3) H2))
def B2 (P:PT):Y k0:=fun x0 x1 x2 x3 H=>
  B1 P x0 x1 x2 x3 H
def code:Code:=(.seq (R 0 2) (.seq (R 1 6) .ret))
theorem body:Tryz.f228.body=some code:=by kernel_rfl
theorem main P:Z 18 k0 (B2 P) code (ret P):=
  (r_seq (b (E k0 (B1 P))) (r_seq (b (ret P)) r_ret))
theorem ac (P:PT) (x0:Value) (x1:Int) (x2 x3:Value) (H:AHeap) (h:B2 P x0 x1 x2 x3 H):A 228 [x0,(I x1),x2,x3] H P:=
  r_fn T0_ok (c:=code) (n:=18) Tryz.func228 body (by kernel_rfl) (main P) (En_mk (x0,x1,x2,x3,()) (by kernel_rfl) ⟨by kernel_rfl,by kernel_rfl,by kernel_rfl,by kernel_rfl,trivial⟩ h)

end F228
namespace F229
abbrev E:=En 41
def O (k:Nat):=ob Tryz.f229 (pth k)
abbrev R (i k:Nat):Code:=.region i ⟨O k⟩ false
def ret (P:PT):EP:=retE T0 41 Tryz.f229 P
abbrev k0:Sk:=[(2,J)]
def B1 (P:PT):Y k0:=fun x2 H=>
  P (I x2) H
abbrev k1:Sk:=[(0,.v),(1,J),(2,J),(4,.v),(5,.v)]
def B2 (P:PT):Y k1:=fun x0 x1 x2 x4 x5 H=>
  A 230 [x0,(I x1),(I x2),x4,x5] H (fun v1 H2=>tup2 v1 (fun v3 v4=>asI .i64 v3 (fun v5=>asI .i64 v4 (fun v6=>B1 P v6 H2))))
abbrev k2:Sk:=[(0,.v),(1,J),(2,J),(3,J),(4,.v),(5,.v)]
def B3 (P:PT):Y k2:=fun x0 x1 x2 x3 x4 x5 H=>
  A 230 [x0,(I x2),(I x3),x4,x5] H (fun v1 H2=>tup2 v1 (fun v3 v4=>asI .i64 v3 (fun v5=>asI .i64 v4 (fun v6=>B2 P x0 x1 v5 x4 x5 H2))))
def B4 (P:PT):Y k2:=fun x0 x1 x2 x3 x4 x5 H=>
  A 230 [x0,(I x1),(I x2),x4,x5] H (fun v1 H2=>tup2 v1 (fun v3 v4=>asI .i64 v3 (fun v5=>asI .i64 v4 (fun v6=>B3 P x0 v5 v6 x3 x4 x5 H2))))
def B5 (P:PT):Y k2:=fun x0 x1 x2 x3 x4 x5 H=>
  B4 P x0 x1 x2 x3 x4 x5 H
def code:Code:=(.seq (R 0 2) (.seq (R 1 6) (.seq (R 2 14) (.seq (R 3 30) (.seq (R 4 62) .ret)))))
theorem body:Tryz.f229.body=some code:=by kernel_rfl
theorem main P:Z 41 k2 (B5 P) code (ret P):=
  (r_seq (b (E k2 (B4 P))) (r_seq (b (E k2 (B3 P))) (r_seq (b (E k1 (B2 P))) (r_seq (b (E k0 (B1 P))) (r_seq (b (ret P)) r_ret)))))
theorem ac (P:PT) (x0:Value) (x1 x2 x3:Int) (x4 x5:Value) (H:AHeap) (h:B5 P x0 x1 x2 x3 x4 x5 H):A 229 [x0,(I x1),(I x2),(I x3),x4,x5] H P:=
  r_fn T0_ok (c:=code) (n:=41) Tryz.func229 body (by kernel_rfl) (main P) (En_mk (x0,x1,x2,x3,x4,x5,()) (by kernel_rfl) ⟨by kernel_rfl,by kernel_rfl,by kernel_rfl,by kernel_rfl,by kernel_rfl,by kernel_rfl,trivial⟩ h)

end F229
namespace F230
abbrev E:=En 32
def O (k:Nat):=ob Tryz.f230 (pth k)
abbrev R (i k:Nat):Code:=.region i ⟨O k⟩ false
def ret (P:PT):EP:=retE T0 32 Tryz.f230 P
abbrev k0:Sk:=[(1,J),(2,J)]
def B1 (P:PT):Y k0:=fun x1 x2 H=>
  P (tuple ⟨[(I x1),(I x2)]⟩) H
def o2:=O 106
def B2 (P:PT):Y k0:=fun x1 x2 H=>
  P (tuple ⟨[(I x2),(I x1)]⟩) H
abbrev k1:Sk:=[(1,J),(2,J),(3,.v)]
def o3:=O 52
def B3 (P:PT):Y k1:=fun x1 x2 x3 H=>
  nilK x3 (fun v1=>asP v1 (fun b2 o3=>li H b2 o3 (fun v4=>nilK x3 (fun v5=>asP v5 (fun b6 o7=>stK H b6 o7 [(I (i64.wrap (v4+1)))] (fun H8=>B2 P x1 x2 H8))))))
abbrev k2:Sk:=[(0,.v),(1,J),(2,J),(3,.v),(4,.v)]
def o4:=O 12
def B4 (P:PT):Y k2:=fun x0 x1 x2 x3 x4 H=>
  idxK x0 x2 2 (fun b1 o2=>li H b1 o2 (fun v3=>li H b1 (o2+1) (fun v4=>idxK x0 x1 2 (fun b5 o6=>li H b5 o6 (fun v7=>li H b5 (o6+1) (fun v8=>callV Tryz.prog T0 x4 [(agg ⟨[(I v3),(I v4)]⟩),(agg ⟨[(I v7),(I v8)]⟩)] H (fun v9 H10=>asI .i64 v9 (fun v11=>pif (decide ((v11:Int)<0)) (B3 P x1 x2 x3 H10) (B1 P x1 x2 H10)))))))))
theorem q4 (P:PT):QD Tryz.prog T0 32 o4 [(0,false),(1,false),(2,false),(3,false),(4,false),(5,false),(6,false),(7,false),(8,false),(9,false),(10,false)] (cnd 22 (En 32 k1 (B3 P)) (En 32 k0 (B1 P))) k2 (B4 P):=fun _ _ _ _ _ _ _  => by kernel_rfl
def B5 (P:PT):Y k2:=fun x0 x1 x2 x3 x4 H=>
  B4 P x0 x1 x2 x3 x4 H
def code:Code:=(.seq (R 0 2) (.seq (.seq (.region 1 ⟨o4⟩ true) (.cond (.tmp 22) (.seq (R 2 52) (.seq (R 3 106) .ret)) .skip)) (.seq (R 4 14) .ret)))
theorem body:Tryz.f230.body=some code:=by kernel_rfl
theorem main P:Z 32 k2 (B5 P) code (ret P):=
  (r_seq (b (E k2 (B4 P))) (r_seq (r_seq (rD T0_ok mixed [(0,false),(1,false),(2,false),(3,false),(4,false),(5,false),(6,false),(7,false),(8,false),(9,false),(10,false)] (by kernel_rfl) (q4 P)) (r_cond rfl (r_seq (b (E k0 (B2 P))) (r_seq (b (ret P)) r_ret)) r_skip)) (r_seq (b (ret P)) r_ret)))
theorem ac (P:PT) (x0:Value) (x1 x2:Int) (x3 x4:Value) (H:AHeap) (h:B5 P x0 x1 x2 x3 x4 H):A 230 [x0,(I x1),(I x2),x3,x4] H P:=
  r_fn T0_ok (c:=code) (n:=32) Tryz.func230 body (by kernel_rfl) (main P) (En_mk (x0,x1,x2,x3,x4,()) (by kernel_rfl) ⟨by kernel_rfl,by kernel_rfl,by kernel_rfl,by kernel_rfl,by kernel_rfl,trivial⟩ h)

end F230
end
end Go.Proofs
