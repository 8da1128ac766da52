import Derived.Test.YtngacbdogjmpaaaGreatX35S
set_option linter.unusedVariables false
set_option maxRecDepth 100000
namespace Go.Proofs
open Go.Abs
open Value IntKind
noncomputable section
namespace F208
abbrev E:=En 19
def O (k:Nat):=ob Tryz.f208 (pth k)
abbrev R (i k:Nat):Code:=.region i ⟨O k⟩ false
def ret (P:PT):EP:=retE T0 19 Tryz.f208 P
abbrev k0:Sk:=[]
def B1 (P:PT):Y k0:=fun H=>
  P (I (-1)) H
abbrev k1:Sk:=[(0,.v),(1,.v),(7,J),(8,J)]
def B3 (P:PT) (N2:Y k1):Y k1:=fun x0 x1 x7 x8 H=>
  N2 x0 x1 x7 (i64.wrap (x8+1)) H
abbrev k2:Sk:=[(5,J)]
def B4 (P:PT) (N2:Y k1):Y k2:=fun x5 H=>
  P (I x5) H
abbrev k3:Sk:=[(0,.v),(1,.v),(5,J),(7,J),(8,J)]
def B5 (P:PT) (N2:Y k1):Y k3:=fun x0 x1 x5 x7 x8 H=>
  idxK x0 x5 2 (fun b1 o2=>li H b1 o2 (fun v3=>li H b1 (o2+1) (fun v4=>callV Tryz.prog T0 x1 [(agg ⟨[(I v3),(I v4)]⟩)] H (fun v5 H6=>asB v5 (fun v7=>pif v7 (B4 P N2 x5 H6) (B3 P N2 x0 x1 x7 x8 H6))))))
def B6 (P:PT) (N2:Y k1):Y k1:=fun x0 x1 x7 x8 H=>
  B5 P N2 x0 x1 x8 x7 x8 H
def B7 (P:PT) (N2:Y k1):Y k1:=fun x0 x1 x7 x8 H=>
  pif (decide ((x8:Int)<x7)) (B6 P N2 x0 x1 x7 x8 H) (B1 P H)
def L2 (P:PT):Y k1:=fun x0 x1 x7 x8 H=>
  ∃ (I:Y k1) (μ:NTy k1 (AHeap→Nat)),I x0 x1 x7 x8 H∧∀ y0 y1 y7 y8 G,I y0 y1 y7 y8 G→B7 P (fun z0 z1 z7 z8 G'=>I z0 z1 z7 z8 G'∧μ z0 z1 z7 z8 G'<μ y0 y1 y7 y8 G) y0 y1 y7 y8 G
theorem l2 P:LQ k1 (L2 P) (B7 P):=fun ⟨_,_,_,_,_⟩ _ ⟨I,μ,h0,hI⟩=>⟨apT _ I,apT _ μ,h0,fun ⟨_,_,_,_,_⟩ _ h=>hI _ _ _ _ _  h⟩
abbrev k4:Sk:=[(0,.v),(1,.v)]
def B8 (P:PT):Y k4:=fun x0 x1 H=>
  lenK x0 (fun n1=>L2 P x0 x1 (n1:Int) 0 H)
def B9 (P:PT):Y k4:=fun x0 x1 H=>
  B8 P x0 x1 H
def code:Code:=(.seq (R 0 2) (.seq (.seq (R 1 12) (.block 0 (.loop (.seq (R 2 104) (.seq (.cond (.tmp 9) .skip (.exit 0)) (.seq (.block 1 (.seq (R 3 1688) (.seq (R 4 3378) (.cond (.tmp 16) (.seq (R 5 13516) .ret) .skip)))) (R 6 423))))))) (.seq (R 7 14) .ret)))
theorem body:Tryz.f208.body=some code:=by kernel_rfl
theorem main P:Z 19 k4 (B9 P) code (ret P):=
  (r_seq (b (E k4 (B8 P))) (r_seq (r_seq (b (E k1 (L2 P))) (r_block (rL (l2 P) (fun N2=>(r_seq (b (cnd 9 (E k1 (B6 P N2)) (E k0 (B1 P)))) (r_seq (r_cond rfl r_skip (r_exit (fun _ _ h=>h))) (r_seq (r_block (r_seq (b (E k3 (B5 P N2))) (r_seq (b (cnd 16 (E k2 (B4 P N2)) (E k1 (B3 P N2)))) (r_cond rfl (r_seq (b (ret P)) r_ret) r_skip)))) (b (E k1 N2))))))))) (r_seq (b (ret P)) r_ret)))
theorem ac (P:PT) (x0 x1:Value) (H:AHeap) (h:B9 P x0 x1 H):A 208 [x0,x1] H P:=
  r_fn T0_ok (c:=code) (n:=19) Tryz.func208 body (by kernel_rfl) (main P) (En_mk (x0,x1,()) (by kernel_rfl) ⟨by kernel_rfl,by kernel_rfl,trivial⟩ h)

end F208
namespace F209
abbrev E:=En 32
def O (k:Nat):=ob Tryz.f209 (pth k)
abbrev R (i k:Nat):Code:=.region i ⟨O k⟩ false
def ret (P:PT):EP:=retE T0 32 Tryz.f209 P
abbrev k0:Sk:=[(1,J),(2,J)]
def B1 (P:PT):Y k0:=fun x1 x2 H=>
  P (tuple ⟨[(I x1),(I x2)]⟩) H
def o2:=O 106
def B2 (P:PT):Y k0:=fun x1 x2 H=>
  P (tuple ⟨[(I x2),(I x1)]⟩) H
abbrev k1:Sk:=[(1,J),(2,J),(3,.v)]
def o3:=O 52
def B3 (P:PT):Y k1:=fun x1 x2 x3 H=>
  nilK x3 (fun v1=>asP v1 (fun b2 o3=>li H b2 o3 (fun v4=>nilK x3 (fun v5=>asP v5 (fun b6 o7=>stK H b6 o7 [(I (i64.wrap (v4+1)))] (fun H8=>B2 P x1 x2 H8))))))
abbrev k2:Sk:=[(0,.v),(1,J),(2,J),(3,.v),(4,.v)]
def o4:=O 12
def B4 (P:PT):Y k2:=fun x0 x1 x2 x3 x4 H=>
  idxK x0 x2 1 (fun b1 o2=>ldI .u64 H b1 o2 (fun v3=>idxK x0 x1 1 (fun b4 o5=>ldI .u64 H b4 o5 (fun v6=>callV Tryz.prog T0 x4 [(int .u64 v3),(int .u64 v6)] H (fun v7 H8=>asI .i64 v7 (fun v9=>pif (decide ((v9:Int)<0)) (B3 P x1 x2 x3 H8) (B1 P x1 x2 H8)))))))
theorem q4 (P:PT):QD Tryz.prog T0 32 o4 [(0,false),(1,false),(2,false),(3,false),(4,false),(5,false),(6,false),(7,false),(8,false),(9,false),(10,false)] (cnd 22 (En 32 k1 (B3 P)) (En 32 k0 (B1 P))) k2 (B4 P):=fun _ _ _ _ _ _ _  => by kernel_rfl
def o5:=O 2
def B5 (P:PT):Y k2:=fun x0 x1 x2 x3 x4 H=>
  B4 P x0 x1 x2 x3 x4 H
def code:Code:=(.seq (R 0 2) (.seq (.seq (.region 1 ⟨o4⟩ true) (.cond (.tmp 22) (.seq (R 2 52) (.seq (R 3 106) .ret)) .skip)) (.seq (R 4 14) .ret)))
theorem body:Tryz.f209.body=some code:=by kernel_rfl
theorem main P:Z 32 k2 (B5 P) code (ret P):=
  (r_seq (b (E k2 (B4 P))) (r_seq (r_seq (rD T0_ok mixed [(0,false),(1,false),(2,false),(3,false),(4,false),(5,false),(6,false),(7,false),(8,false),(9,false),(10,false)] (by kernel_rfl) (q4 P)) (r_cond rfl (r_seq (b (E k0 (B2 P))) (r_seq (b (ret P)) r_ret)) r_skip)) (r_seq (b (ret P)) r_ret)))
theorem ac (P:PT) (x0:Value) (x1 x2:Int) (x3 x4:Value) (H:AHeap) (h:B5 P x0 x1 x2 x3 x4 H):A 209 [x0,(I x1),(I x2),x3,x4] H P:=
  r_fn T0_ok (c:=code) (n:=32) Tryz.func209 body (by kernel_rfl) (main P) (En_mk (x0,x1,x2,x3,x4,()) (by kernel_rfl) ⟨by kernel_rfl,by kernel_rfl,by kernel_rfl,by kernel_rfl,by kernel_rfl,trivial⟩ h)

end F209
end
end Go.Proofs
