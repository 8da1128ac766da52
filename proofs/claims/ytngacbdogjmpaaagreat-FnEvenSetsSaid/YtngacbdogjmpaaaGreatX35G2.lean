import Derived.Test.YtngacbdogjmpaaaGreatX35S
set_option linter.unusedVariables false
set_option maxRecDepth 100000
namespace Go.Proofs
open Go.Abs
open Value IntKind
noncomputable section
namespace F65
abbrev E:=En 32
def O (k:Nat):=ob Tryz.f65 (pth k)
abbrev R (i k:Nat):Code:=.region i ⟨O k⟩ false
def ret (P:PT):EP:=retE T0 32 Tryz.f65 P
abbrev k0:Sk:=[(0,.v),(2,.x)]
def B1 (P:PT):Y k0:=fun x0 x2 H=>
  newK H [(I 2),(I 4),(I 4),(I 6),(I 6),(I 8),(I 8),(I 10)] 2 (fun b1 H2=>A 78 [x0,(slice (some ⟨b1,0,none⟩) 8 (8+1))] H2 (fun v3 H4=>asI .i64 v3 (fun v5=>A 104 [x0,(I v5)] H4 (fun v6 H7=>agg2 v6 (fun v8 v9=>asI .i64 v8 (fun v10=>stK H7 x2 0 [(I v10),v9] (fun H12=>li H12 x2 0 (fun v13=>ld1 H12 x2 1 (fun v14=>P (agg ⟨[(I v13),v14]⟩) H12)))))))))
abbrev k1:Sk:=[(0,.v),(2,.x),(4,.x)]
def o2:=O 214
def B2 (P:PT):Y k1:=fun x0 x2 x4 H=>
  li H x4 0 (fun v1=>ld1 H x4 1 (fun v2=>li H x4 0 (fun v3=>A 117 [x0,(I v3)] H (fun v4 H5=>(li H5 x4 0 (fun v7=>ld1 H5 x4 1 (fun v8=>((agg ⟨[(I v7),v8]⟩)=(agg ⟨[(I v1),v2]⟩))∧(H5=H5))))∧(A 116 [(agg ⟨[(I v1),v2]⟩),v4] H5 (fun v9 H10=>agg2 v9 (fun v11 v12=>asI .i64 v11 (fun v13=>stK H10 x2 0 [(I v13),v12] (fun H15=>li H15 x2 0 (fun v16=>ld1 H15 x2 1 (fun v17=>P (agg ⟨[(I v16),v17]⟩) H15)))))))))))
theorem q2 (P:PT):QT Tryz.prog T0 32 o2 (.op 0 [] (.op 1 [] (.op 2 [] (.op 3 [] (.op 4 [0] (.op 5 [] (.op 6 [] .done))))))) (ret P) k1 (B2 P):=fun _ _ _ _ _  => by kernel_rfl
abbrev k2:Sk:=[(0,.v),(2,.x),(3,.v)]
def B3 (P:PT):Y k2:=fun x0 x2 x3 H=>
  lenK x3 (fun n1=>A 60 [x0,(I (n1:Int))] H (fun v2 H3=>asI .i64 v2 (fun v4=>idxK x3 v4 1 (fun b5 o6=>ld1 H3 b5 o6 (fun v8=>asS v8 (fun v7=>A 115 [(string v7)] H3 (fun v9 H10=>tup2 v9 (fun v11 v12=>agg2 v11 (fun v13 v14=>asI .i64 v13 (fun v15=>asB v12 (fun v17=>newK H10 [(I 0),(slice none 0 0)] 26 (fun b18 H19=>stK H19 b18 0 [(I v15),v14] (fun H20=>B2 P x0 x2 b18 H20)))))))))))))
def B4 (P:PT):Y k0:=fun x0 x2 H=>
  newK H [(string (⟨#[116,104,101,116,97]⟩)),(string (⟨#[107,52]⟩)),(string (⟨#[107,51,51]⟩)),(string (⟨#[112,114,105,115,109]⟩)),(string (⟨#[99,117,98,101]⟩)),(string (⟨#[112,101,116,101,114,115,101,110]⟩))] 9 (fun b1 H2=>B3 P x0 x2 (slice (some ⟨b1,0,none⟩) 6 (6+1)) H2)
def B5 (P:PT):Y k0:=fun x0 x2 H=>
  A 60 [x0,(I 4)] H (fun v1 H2=>asI .i64 v1 (fun v3=>pif ((v3:Int)==0) (B4 P x0 x2 H2) (B1 P x0 x2 H2)))
abbrev k3:Sk:=[(0,.v)]
def o6:=O 2
def B6 (P:PT):Y k3:=fun x0 H=>
  newK H [(I 0),(slice none 0 0)] 26 (fun b1 H2=>B5 P x0 b1 H2)
def code:Code:=(.seq (R 0 2) (.seq (.seq (R 1 12) (.cond (.tmp 8) (.seq (R 2 52) (.seq (R 3 106) (.seq (.region 4 ⟨o2⟩ true) .ret))) .skip)) (.seq (R 5 14) .ret)))
theorem body:Tryz.f65.body=some code:=by kernel_rfl
theorem main P:Z 32 k3 (B6 P) code (ret P):=
  (r_seq (b (E k0 (B5 P))) (r_seq (r_seq (b (cnd 8 (E k0 (B4 P)) (E k0 (B1 P)))) (r_cond rfl (r_seq (b (E k2 (B3 P))) (r_seq (b (E k1 (B2 P))) (r_seq (rT T0_ok mixed (.op 0 [] (.op 1 [] (.op 2 [] (.op 3 [] (.op 4 [0] (.op 5 [] (.op 6 [] .done))))))) (by kernel_rfl) (q2 P)) r_ret))) r_skip)) (r_seq (b (ret P)) r_ret)))
theorem ac (P:PT) (x0:Value) (H:AHeap) (h:B6 P x0 H):A 65 [x0] H P:=
  r_fn T0_ok (c:=code) (n:=32) Tryz.func65 body (by kernel_rfl) (main P) (En_mk (x0,()) (by kernel_rfl) ⟨by kernel_rfl,trivial⟩ h)

end F65
namespace F66
abbrev E:=En 76
def O (k:Nat):=ob Tryz.f66 (pth k)
abbrev R (i k:Nat):Code:=.region i ⟨O k⟩ false
def ret (P:PT):EP:=retE T0 76 Tryz.f66 P
abbrev k0:Sk:=[(4,.v)]
def B1 (P:PT):Y k0:=fun x4 H=>
  P x4 H
abbrev k1:Sk:=[(1,.x),(3,.i .u64),(4,.v),(40,J),(41,J)]
def B3 (P:PT) (N2:Y k1):Y k1:=fun x1 x3 x4 x40 x41 H=>
  N2 x1 x3 x4 x40 (i64.wrap (x41+1)) H
abbrev k2:Sk:=[(1,.x),(3,.i .u64),(4,.v),(8,.i .u64),(40,J),(41,J)]
def B4 (P:PT) (N2:Y k1):Y k2:=fun x1 x3 x4 x8 x40 x41 H=>
  newK H [(int .u64 x8)] 55 (fun b1 H2=>apK T0 55 H2 x4 (slice (some ⟨b1,0,none⟩) 1 (1+1)) (fun v3 H4=>B3 P N2 x1 x3 v3 x40 x41 H4))
abbrev k3:Sk:=[(1,.x),(3,.i .u64),(4,.v),(8,.i .u64),(9,.b),(40,J),(41,J)]
abbrev k4:Sk:=[(1,.x),(3,.i .u64),(4,.v),(8,.i .u64),(9,.b),(40,J),(41,J),(53,J),(54,J)]
def B7 (P:PT) (N2:Y k1) (N5:Y k3) (N6:Y k4):Y k4:=fun x1 x3 x4 x8 x9 x40 x41 x53 x54 H=>
  N6 x1 x3 x4 x8 x9 x40 x41 x53 (i64.wrap (x54+1)) H
abbrev k5:Sk:=[(1,.x),(3,.i .u64),(4,.v),(8,.i .u64),(40,J),(41,J),(53,J),(54,J)]
def B8 (P:PT) (N2:Y k1) (N5:Y k3) (N6:Y k4):Y k5:=fun x1 x3 x4 x8 x40 x41 x53 x54 H=>
  B7 P N2 N5 N6 x1 x3 x4 x8 true x40 x41 x53 x54 H
abbrev k6:Sk:=[(1,.x),(3,.i .u64),(4,.v),(8,.i .u64),(11,.i .u64),(40,J),(41,J),(53,J),(54,J)]
def B9 (P:PT) (N2:Y k1) (N5:Y k3) (N6:Y k4):Y k6:=fun x1 x3 x4 x8 x11 x40 x41 x53 x54 H=>
  B8 P N2 N5 N6 x1 x3 x4 (u64.wrap (BitVec.ofInt 64 x8&&&~~~(BitVec.ofInt 64 x11)).toNat) x40 x41 x53 x54 H
abbrev k7:Sk:=[(1,.x),(3,.i .u64),(4,.v),(8,.i .u64),(9,.b),(11,.i .u64),(40,J),(41,J),(53,J),(54,J)]
def B10 (P:PT) (N2:Y k1) (N5:Y k3) (N6:Y k4):Y k7:=fun x1 x3 x4 x8 x9 x11 x40 x41 x53 x54 H=>
  A 107 [(int .u64 x11)] H (fun v1 H2=>asI .i64 v1 (fun v3=>pif ((v3:Int)==1) (B9 P N2 N5 N6 x1 x3 x4 x8 x11 x40 x41 x53 x54 H2) (B7 P N2 N5 N6 x1 x3 x4 x8 x9 x40 x41 x53 x54 H2)))
abbrev k8:Sk:=[(1,.x),(3,.i .u64),(4,.v),(8,.i .u64),(9,.b),(10,J),(40,J),(41,J),(53,J),(54,J)]
def B11 (P:PT) (N2:Y k1) (N5:Y k3) (N6:Y k4):Y k8:=fun x1 x3 x4 x8 x9 x10 x40 x41 x53 x54 H=>
  li H x1 0 (fun v1=>ld1 H x1 1 (fun v2=>A 106 [(agg ⟨[(I v1),v2]⟩),(I x10)] H (fun v3 H4=>A 46 [v3] H4 (fun v6 H7=>asI .u64 v6 (fun v8=>B10 P N2 N5 N6 x1 x3 x4 x8 x9 (u64.wrap (BitVec.ofInt 64 v8&&&BitVec.ofInt 64 x8).toNat) x40 x41 x53 x54 H7)))))
def B12 (P:PT) (N2:Y k1) (N5:Y k3) (N6:Y k4):Y k4:=fun x1 x3 x4 x8 x9 x40 x41 x53 x54 H=>
  B11 P N2 N5 N6 x1 x3 x4 x8 x9 x54 x40 x41 x53 x54 H
def B13 (P:PT) (N2:Y k1) (N5:Y k3) (N6:Y k4):Y k4:=fun x1 x3 x4 x8 x9 x40 x41 x53 x54 H=>
  pif (decide ((x54:Int)<x53)) (B12 P N2 N5 N6 x1 x3 x4 x8 x9 x40 x41 x53 x54 H) (N5 x1 x3 x4 x8 x9 x40 x41 H)
def L6 (P:PT) (N2:Y k1) (N5:Y k3):Y k4:=fun x1 x3 x4 x8 x9 x40 x41 x53 x54 H=>
  ∃ (I:Y k4) (μ:NTy k4 (AHeap→Nat)),I x1 x3 x4 x8 x9 x40 x41 x53 x54 H∧∀ y1 y3 y4 y8 y9 y40 y41 y53 y54 G,I y1 y3 y4 y8 y9 y40 y41 y53 y54 G→B13 P N2 N5 (fun z1 z3 z4 z8 z9 z40 z41 z53 z54 G'=>I z1 z3 z4 z8 z9 z40 z41 z53 z54 G'∧μ z1 z3 z4 z8 z9 z40 z41 z53 z54 G'<μ y1 y3 y4 y8 y9 y40 y41 y53 y54 G) y1 y3 y4 y8 y9 y40 y41 y53 y54 G
theorem l6 P N2 N5:LQ k4 (L6 P N2 N5) (B13 P N2 N5):=fun ⟨_,_,_,_,_,_,_,_,_,_⟩ _ ⟨I,μ,h0,hI⟩=>⟨apT _ I,apT _ μ,h0,fun ⟨_,_,_,_,_,_,_,_,_,_⟩ _ h=>hI _ _ _ _ _ _ _ _ _ _  h⟩
def o14:=O 16410442
def B14 (P:PT) (N2:Y k1) (N5:Y k3):Y k3:=fun x1 x3 x4 x8 x9 x40 x41 H=>
  li H x1 0 (fun v1=>L6 P N2 N5 x1 x3 x4 x8 x9 x40 x41 v1 0 H)
def B15 (P:PT) (N2:Y k1) (N5:Y k3):Y k2:=fun x1 x3 x4 x8 x40 x41 H=>
  B14 P N2 N5 x1 x3 x4 x8 false x40 x41 H
def B16 (P:PT) (N2:Y k1) (N5:Y k3):Y k3:=fun x1 x3 x4 x8 x9 x40 x41 H=>
  pif x9 (B15 P N2 N5 x1 x3 x4 x8 x40 x41 H) (B4 P N2 x1 x3 x4 x8 x40 x41 H)
def L5 (P:PT) (N2:Y k1):Y k3:=fun x1 x3 x4 x8 x9 x40 x41 H=>
  ∃ (I:Y k3) (μ:NTy k3 (AHeap→Nat)),I x1 x3 x4 x8 x9 x40 x41 H∧∀ y1 y3 y4 y8 y9 y40 y41 G,I y1 y3 y4 y8 y9 y40 y41 G→B16 P N2 (fun z1 z3 z4 z8 z9 z40 z41 G'=>I z1 z3 z4 z8 z9 z40 z41 G'∧μ z1 z3 z4 z8 z9 z40 z41 G'<μ y1 y3 y4 y8 y9 y40 y41 G) y1 y3 y4 y8 y9 y40 y41 G
theorem l5 P N2:LQ k3 (L5 P N2) (B16 P N2):=fun ⟨_,_,_,_,_,_,_,_⟩ _ ⟨I,μ,h0,hI⟩=>⟨apT _ I,apT _ μ,h0,fun ⟨_,_,_,_,_,_,_,_⟩ _ h=>hI _ _ _ _ _ _ _ _  h⟩
def B17 (P:PT) (N2:Y k1):Y k2:=fun x1 x3 x4 x8 x40 x41 H=>
  L5 P N2 x1 x3 x4 x8 true x40 x41 H
abbrev k9:Sk:=[(1,.x),(3,.i .u64),(4,.v),(7,J),(40,J),(41,J)]
def B18 (P:PT) (N2:Y k1):Y k9:=fun x1 x3 x4 x7 x40 x41 H=>
  ((0:Int)≤x7)∧(B17 P N2 x1 x3 x4 (u64.wrap (BitVec.ofInt 64 x3|||BitVec.ofInt 64 (u64.wrap (1*2^(min (Int.toNat x7) 64)))).toNat) x40 x41 H)
def B19 (P:PT) (N2:Y k1):Y k9:=fun x1 x3 x4 x7 x40 x41 H=>
  A 110 [(int .u64 x3),(I x7)] H (fun v1 H2=>asB v1 (fun v3=>pif v3 (B3 P N2 x1 x3 x4 x40 x41 H2) (B18 P N2 x1 x3 x4 x7 x40 x41 H2)))
def B20 (P:PT) (N2:Y k1):Y k1:=fun x1 x3 x4 x40 x41 H=>
  B19 P N2 x1 x3 x4 x41 x40 x41 H
def B21 (P:PT) (N2:Y k1):Y k1:=fun x1 x3 x4 x40 x41 H=>
  pif (decide ((x41:Int)<x40)) (B20 P N2 x1 x3 x4 x40 x41 H) (B1 P x4 H)
def L2 (P:PT):Y k1:=fun x1 x3 x4 x40 x41 H=>
  ∃ (I:Y k1) (μ:NTy k1 (AHeap→Nat)),I x1 x3 x4 x40 x41 H∧∀ y1 y3 y4 y40 y41 G,I y1 y3 y4 y40 y41 G→B21 P (fun z1 z3 z4 z40 z41 G'=>I z1 z3 z4 z40 z41 G'∧μ z1 z3 z4 z40 z41 G'<μ y1 y3 y4 y40 y41 G) y1 y3 y4 y40 y41 G
theorem l2 P:LQ k1 (L2 P) (B21 P):=fun ⟨_,_,_,_,_,_⟩ _ ⟨I,μ,h0,hI⟩=>⟨apT _ I,apT _ μ,h0,fun ⟨_,_,_,_,_,_⟩ _ h=>hI _ _ _ _ _ _  h⟩
abbrev k10:Sk:=[(1,.x),(3,.i .u64),(4,.v)]
def B22 (P:PT):Y k10:=fun x1 x3 x4 H=>
  ld1 H x1 1 (fun v1=>lenK v1 (fun n2=>L2 P x1 x3 x4 (n2:Int) 0 H))
abbrev k11:Sk:=[(1,.x),(3,.i .u64),(4,.v),(13,.v),(14,J),(15,J)]
def B24 (P:PT) (N23:Y k11):Y k11:=fun x1 x3 x4 x13 x14 x15 H=>
  N23 x1 x3 x4 x13 x14 (i64.wrap (x15+1)) H
abbrev k12:Sk:=[(1,.x),(3,.i .u64),(4,.v),(5,J),(13,.v),(14,J),(15,J)]
def B25 (P:PT) (N23:Y k11):Y k12:=fun x1 x3 x4 x5 x13 x14 x15 H=>
  ((0:Int)≤x5)∧(B24 P N23 x1 (u64.wrap (BitVec.ofInt 64 x3|||BitVec.ofInt 64 (u64.wrap (1*2^(min (Int.toNat x5) 64)))).toNat) x4 x13 x14 x15 H)
abbrev k13:Sk:=[(1,.x),(3,.i .u64),(4,.v),(5,J),(6,.x),(13,.v),(14,J),(15,J)]
def o26:=O 15666
def B26 (P:PT) (N23:Y k11):Y k13:=fun x1 x3 x4 x5 x6 x13 x14 x15 H=>
  li H x1 0 (fun v1=>ld1 H x1 1 (fun v2=>li H x6 0 (fun v3=>li H x1 0 (fun v4=>ld1 H x1 1 (fun v5=>li H x6 1 (fun v6=>A 120 [(agg ⟨[(I v4),v5]⟩)] H (fun v7 H8=>asI .u64 v7 (fun v9=>(AHeap.le H H8)∧(A 75 [(agg ⟨[(I v1),v2]⟩),(I v3),(int .u64 (u64.wrap (BitVec.ofInt 64 v9&&&~~~(BitVec.ofInt 64 x3)).toNat))] H8 (fun v10 H11=>(AHeap.le H8 H11)∧(idxK v10 v6 1 (fun b13 o14=>li H11 b13 o14 (fun v15=>pif (decide ((v15:Int)<0)) (B25 P N23 x1 x3 x4 x5 x13 x14 x15 H11) (B24 P N23 x1 x3 x4 x13 x14 x15 H11))))))))))))))
theorem q26 (P:PT) (N23:Y k11):QD Tryz.prog T0 76 o26 [(0,false),(1,false),(2,false),(3,false),(5,false),(8,false),(9,false),(4,true),(6,false),(7,true),(10,false),(11,false),(12,false)] (cnd 32 (En 76 k12 (B25 P N23)) (En 76 k11 (B24 P N23))) k13 (B26 P N23):=fun _ _ _ _ _ _ _ _ _ _  => by kernel_rfl
def B27 (P:PT) (N23:Y k11):Y k11:=fun x1 x3 x4 x13 x14 x15 H=>
  idxK x13 x15 2 (fun b1 o2=>li H b1 o2 (fun v3=>li H b1 (o2+1) (fun v4=>newK H [(I 0),(I 0)] 66 (fun b5 H6=>stK H6 b5 0 [(I v3),(I v4)] (fun H7=>B26 P N23 x1 x3 x4 x15 b5 x13 x14 x15 H7)))))
def B28 (P:PT) (N23:Y k11):Y k11:=fun x1 x3 x4 x13 x14 x15 H=>
  pif (decide ((x15:Int)<x14)) (B27 P N23 x1 x3 x4 x13 x14 x15 H) (B22 P x1 x3 x4 H)
def L23 (P:PT):Y k11:=fun x1 x3 x4 x13 x14 x15 H=>
  ∃ (I:Y k11) (μ:NTy k11 (AHeap→Nat)),I x1 x3 x4 x13 x14 x15 H∧∀ y1 y3 y4 y13 y14 y15 G,I y1 y3 y4 y13 y14 y15 G→B28 P (fun z1 z3 z4 z13 z14 z15 G'=>I z1 z3 z4 z13 z14 z15 G'∧μ z1 z3 z4 z13 z14 z15 G'<μ y1 y3 y4 y13 y14 y15 G) y1 y3 y4 y13 y14 y15 G
theorem l23 P:LQ k11 (L23 P) (B28 P):=fun ⟨_,_,_,_,_,_,_⟩ _ ⟨I,μ,h0,hI⟩=>⟨apT _ I,apT _ μ,h0,fun ⟨_,_,_,_,_,_,_⟩ _ h=>hI _ _ _ _ _ _ _  h⟩
def B29 (P:PT):Y k10:=fun x1 x3 x4 H=>
  ld1 H x1 1 (fun v1=>lenK v1 (fun n2=>L23 P x1 x3 x4 v1 (n2:Int) 0 H))
abbrev k14:Sk:=[(1,.x),(3,.i .u64)]
def B30 (P:PT):Y k14:=fun x1 x3 H=>
  B29 P x1 x3 (slice none 0 0) H
abbrev k15:Sk:=[(1,.x)]
def B31 (P:PT):Y k15:=fun x1 H=>
  B30 P x1 0 H
abbrev k16:Sk:=[(0,.g [.i,.v])]
def B32 (P:PT):Y k16:=fun x0a x0b H=>
  newK H [(I x0a),x0b] 26 (fun b1 H2=>B31 P b1 H2)
def code:Code:=(.seq (R 0 2) (.seq (R 1 6) (.seq (R 2 14) (.seq (.seq (R 3 60) (.block 0 (.loop (.seq (R 4 488) (.seq (.cond (.tmp 16) .skip (.exit 0)) (.seq (.block 1 (.seq (R 5 7832) (.seq (.region 6 ⟨o26⟩ true) (.cond (.tmp 32) (R 7 31334) .skip)))) (R 8 1959))))))) (.seq (.seq (R 9 124) (.block 2 (.loop (.seq (R 10 1000) (.seq (.cond (.tmp 42) .skip (.exit 2)) (.seq (.block 3 (.seq (R 11 16024) (.seq (.seq (R 12 64100) (.cond (.tmp 46) (.exit 3) .skip)) (.seq (R 13 64102) (.seq (.seq (R 14 256412) (.block 4 (.loop (.seq (.seq (R 15 4102608) (.cond (.tmp 51) .skip (.exit 4))) (.block 5 (.seq (R 16 8205220) (.seq (R 17 16410442) (.block 6 (.loop (.seq (R 18 131283544) (.seq (.cond (.tmp 55) .skip (.exit 6)) (.seq (.block 7 (.seq (R 19 2100536728) (.seq (R 20 4201073458) (.seq (R 21 8402146918) (.cond (.tmp 65) (.seq (R 22 33608587676) (R 23 33608587677)) .skip))))) (R 24 525134183))))))))))))) (R 25 128207)))))) (R 26 4007))))))) (.seq (R 27 126) .ret))))))
theorem body:Tryz.f66.body=some code:=by kernel_rfl
theorem main P:Z 76 k16 (B32 P) code (ret P):=
  (r_seq (b (E k15 (B31 P))) (r_seq (b (E k14 (B30 P))) (r_seq (b (E k10 (B29 P))) (r_seq (r_seq (b (E k11 (L23 P))) (r_block (rL (l23 P) (fun N23=>(r_seq (b (cnd 16 (E k11 (B27 P N23)) (E k10 (B22 P)))) (r_seq (r_cond rfl r_skip (r_exit (fun _ _ h=>h))) (r_seq (r_block (r_seq (b (E k13 (B26 P N23))) (r_seq (rD T0_ok mixed [(0,false),(1,false),(2,false),(3,false),(5,false),(8,false),(9,false),(4,true),(6,false),(7,true),(10,false),(11,false),(12,false)] (by kernel_rfl) (q26 P N23)) (r_cond rfl (b (E k11 (B24 P N23))) r_skip)))) (b (E k11 N23))))))))) (r_seq (r_seq (b (E k1 (L2 P))) (r_block (rL (l2 P) (fun N2=>(r_seq (b (cnd 42 (E k1 (B20 P N2)) (E k0 (B1 P)))) (r_seq (r_cond rfl r_skip (r_exit (fun _ _ h=>h))) (r_seq (r_block (r_seq (b (E k9 (B19 P N2))) (r_seq (r_seq (b (cnd 46 (E k1 (B3 P N2)) (E k9 (B18 P N2)))) (r_cond rfl (r_exit (fun _ _ h=>h)) r_skip)) (r_seq (b (E k2 (B17 P N2))) (r_seq (r_seq (b (E k3 (L5 P N2))) (r_block (rL (l5 P N2) (fun N5=>(r_seq (r_seq (b (cnd 51 (E k2 (B15 P N2 N5)) (E k2 (B4 P N2)))) (r_cond rfl r_skip (r_exit (fun _ _ h=>h)))) (r_block (r_seq (b (E k3 (B14 P N2 N5))) (r_seq (b (E k4 (L6 P N2 N5))) (r_block (rL (l6 P N2 N5) (fun N6=>(r_seq (b (cnd 55 (E k4 (B12 P N2 N5 N6)) (E k3 N5))) (r_seq (r_cond rfl r_skip (r_exit (fun _ _ h=>h))) (r_seq (r_block (r_seq (b (E k8 (B11 P N2 N5 N6))) (r_seq (b (E k7 (B10 P N2 N5 N6))) (r_seq (b (cnd 65 (E k6 (B9 P N2 N5 N6)) (E k4 (B7 P N2 N5 N6)))) (r_cond rfl (r_seq (b (E k5 (B8 P N2 N5 N6))) (b (E k4 (B7 P N2 N5 N6)))) r_skip))))) (b (E k4 N6)))))))))))))))) (b (E k1 (B3 P N2)))))))) (b (E k1 N2))))))))) (r_seq (b (ret P)) r_ret))))))
theorem ac (P:PT) (x0a:Int) (x0b:Value) (H:AHeap) (h:B32 P x0a x0b H):A 66 [(agg ⟨[(I x0a),x0b]⟩)] H P:=
  r_fn T0_ok (c:=code) (n:=76) Tryz.func66 body (by kernel_rfl) (main P) (En_mk (x0a,x0b,()) (by kernel_rfl) ⟨by kernel_rfl,trivial⟩ h)

end F66
namespace F67
abbrev E:=En 8
def O (k:Nat):=ob Tryz.f67 (pth k)
abbrev R (i k:Nat):Code:=.region i ⟨O k⟩ false
def ret (P:PT):EP:=retE T0 8 Tryz.f67 P
abbrev k0:Sk:=[(0,.v)]
def B1 (P:PT):Y k0:=fun x0 H=>
  newK H [] 55 (fun b1 H2=>apK T0 55 H2 (slice (some ⟨b1,0,none⟩) 0 (0+1)) x0 (fun v3 H4=>P v3 H4))
abbrev k1:Sk:=[]
def B2 (P:PT):Y k1:=fun H=>
  P (slice none 0 0) H
def B3 (P:PT):Y k0:=fun x0 H=>
  isNilK x0 (fun v1=>pif v1 (B2 P H) (B1 P x0 H))
def B4 (P:PT):Y k0:=fun x0 H=>
  B3 P x0 H
def code:Code:=(.seq (R 0 2) (.seq (.seq (R 1 12) (.cond (.tmp 4) (.seq (R 2 52) .ret) .skip)) (.seq (R 3 14) .ret)))
theorem body:Tryz.f67.body=some code:=by kernel_rfl
theorem main P:Z 8 k0 (B4 P) code (ret P):=
  (r_seq (b (E k0 (B3 P))) (r_seq (r_seq (b (cnd 4 (E k1 (B2 P)) (E k0 (B1 P)))) (r_cond rfl (r_seq (b (ret P)) r_ret) r_skip)) (r_seq (b (ret P)) r_ret)))
theorem ac (P:PT) (x0:Value) (H:AHeap) (h:B4 P x0 H):A 67 [x0] H P:=
  r_fn T0_ok (c:=code) (n:=8) Tryz.func67 body (by kernel_rfl) (main P) (En_mk (x0,()) (by kernel_rfl) ⟨by kernel_rfl,trivial⟩ h)

end F67
namespace F68
abbrev E:=En 42
def O (k:Nat):=ob Tryz.f68 (pth k)
abbrev R (i k:Nat):Code:=.region i ⟨O k⟩ false
def ret (P:PT):EP:=retE T0 42 Tryz.f68 P
abbrev k0:Sk:=[(0,.v),(5,J)]
def B1 (P:PT):Y k0:=fun x0 x5 H=>
  sliceK H 55 x0 none (some (I x5)) 1 (fun v1=>P v1 H)
def o2:=O 62
def B2 (P:PT):Y k0:=fun x0 x5 H=>
  sliceK H 55 x0 (some (I x5)) none 1 (fun v1=>clrK T0 55 H v1 (fun H2=>B1 P x0 x5 H2))
abbrev k1:Sk:=[(0,.v),(1,.v),(5,J),(6,J)]
def B4 (P:PT) (N3:Y k1):Y k1:=fun x0 x1 x5 x6 H=>
  N3 x0 x1 x5 (i64.wrap (x6+1)) H
def B5 (P:PT) (N3:Y k1):Y k1:=fun x0 x1 x5 x6 H=>
  B4 P N3 x0 x1 (i64.wrap (x5+1)) x6 H
abbrev k2:Sk:=[(0,.v),(1,.v),(5,J),(6,J),(7,.i .u64)]
def B6 (P:PT) (N3:Y k1):Y k2:=fun x0 x1 x5 x6 x7 H=>
  idxK x0 x5 1 (fun b1 o2=>stK H b1 o2 [(int .u64 x7)] (fun H3=>B5 P N3 x0 x1 x5 x6 H3))
def B7 (P:PT) (N3:Y k1):Y k2:=fun x0 x1 x5 x6 x7 H=>
  callV Tryz.prog T0 x1 [(int .u64 x7)] H (fun v1 H2=>asB v1 (fun v3=>pif (!v3) (B6 P N3 x0 x1 x5 x6 x7 H2) (B4 P N3 x0 x1 x5 x6 H2)))
def B8 (P:PT) (N3:Y k1):Y k1:=fun x0 x1 x5 x6 H=>
  idxK x0 x6 1 (fun b1 o2=>ldI .u64 H b1 o2 (fun v3=>B7 P N3 x0 x1 x5 x6 v3 H))
def B9 (P:PT) (N3:Y k1):Y k1:=fun x0 x1 x5 x6 H=>
  lenK x0 (fun n1=>pif (decide ((x6:Int)<(n1:Int))) (B8 P N3 x0 x1 x5 x6 H) (B2 P x0 x5 H))
def L3 (P:PT):Y k1:=fun x0 x1 x5 x6 H=>
  ∃ (I:Y k1) (μ:NTy k1 (AHeap→Nat)),I x0 x1 x5 x6 H∧∀ y0 y1 y5 y6 G,I y0 y1 y5 y6 G→B9 P (fun z0 z1 z5 z6 G'=>I z0 z1 z5 z6 G'∧μ z0 z1 z5 z6 G'<μ y0 y1 y5 y6 G) y0 y1 y5 y6 G
theorem l3 P:LQ k1 (L3 P) (B9 P):=fun ⟨_,_,_,_,_⟩ _ ⟨I,μ,h0,hI⟩=>⟨apT _ I,apT _ μ,h0,fun ⟨_,_,_,_,_⟩ _ h=>hI _ _ _ _ _  h⟩
abbrev k3:Sk:=[(0,.v),(1,.v),(5,J)]
def B10 (P:PT):Y k3:=fun x0 x1 x5 H=>
  L3 P x0 x1 x5 (i64.wrap (x5+1)) H
abbrev k4:Sk:=[(0,.v)]
def B11 (P:PT):Y k4:=fun x0 H=>
  P x0 H
def B12 (P:PT):Y k3:=fun x0 x1 x5 H=>
  pif ((x5:Int)==(-1)) (B11 P x0 H) (B10 P x0 x1 x5 H)
abbrev k5:Sk:=[(0,.v),(1,.v)]
def B13 (P:PT):Y k5:=fun x0 x1 H=>
  A 121 [x0,x1] H (fun v1 H2=>asI .i64 v1 (fun v3=>B12 P x0 x1 v3 H2))
def B14 (P:PT):Y k5:=fun x0 x1 H=>
  B13 P x0 x1 H
def code:Code:=(.seq (R 0 2) (.seq (R 1 6) (.seq (.seq (R 2 28) (.cond (.tmp 12) (.seq (R 3 116) .ret) .skip)) (.seq (.seq (R 4 60) (.block 0 (.loop (.seq (.seq (R 5 976) (.cond (.tmp 19) .skip (.exit 0))) (.seq (.block 1 (.seq (R 7 3912) (.seq (R 8 7826) (.cond (.tmp 29) (.seq (R 9 31308) (R 10 31309)) .skip)))) (R 6 979)))))) (.seq (R 11 62) (.seq (R 12 126) .ret))))))
theorem body:Tryz.f68.body=some code:=by kernel_rfl
theorem main P:Z 42 k5 (B14 P) code (ret P):=
  (r_seq (b (E k5 (B13 P))) (r_seq (b (E k3 (B12 P))) (r_seq (r_seq (b (cnd 12 (E k4 (B11 P)) (E k3 (B10 P)))) (r_cond rfl (r_seq (b (ret P)) r_ret) r_skip)) (r_seq (r_seq (b (E k1 (L3 P))) (r_block (rL (l3 P) (fun N3=>(r_seq (r_seq (b (cnd 19 (E k1 (B8 P N3)) (E k0 (B2 P)))) (r_cond rfl r_skip (r_exit (fun _ _ h=>h)))) (r_seq (r_block (r_seq (b (E k2 (B7 P N3))) (r_seq (b (cnd 29 (E k2 (B6 P N3)) (E k1 (B4 P N3)))) (r_cond rfl (r_seq (b (E k1 (B5 P N3))) (b (E k1 (B4 P N3)))) r_skip)))) (b (E k1 N3)))))))) (r_seq (b (E k0 (B1 P))) (r_seq (b (ret P)) r_ret))))))
theorem ac (P:PT) (x0 x1:Value) (H:AHeap) (h:B14 P x0 x1 H):A 68 [x0,x1] H P:=
  r_fn T0_ok (c:=code) (n:=42) Tryz.func68 body (by kernel_rfl) (main P) (En_mk (x0,x1,()) (by kernel_rfl) ⟨by kernel_rfl,by kernel_rfl,trivial⟩ h)

end F68
namespace F69
abbrev E:=En 8
def O (k:Nat):=ob Tryz.f69 (pth k)
abbrev R (i k:Nat):Code:=.region i ⟨O k⟩ false
def ret (P:PT):EP:=retE T0 8 Tryz.f69 P
abbrev k0:Sk:=[(0,.i .u64),(1,.v)]
def B1 (P:PT):Y k0:=fun x0 x1 H=>
  asP x1 (fun b1 o2=>li H b1 o2 (fun v3=>ld1 H b1 (o2+1) (fun v4=>A 52 [(agg ⟨[(I v3),v4]⟩),(int .u64 x0)] H (fun v5 H6=>asB v5 (fun v7=>P (bool (!v7)) H6)))))
def o2:=O 2
def B2 (P:PT):Y k0:=fun x0 x1 H=>
  B1 P x0 x1 H
def code:Code:=(.seq (R 0 2) (.seq (R 1 6) .ret))
theorem body:Tryz.f69.body=some code:=by kernel_rfl
theorem main P:Z 8 k0 (B2 P) code (ret P):=
  (r_seq (b (E k0 (B1 P))) (r_seq (b (ret P)) r_ret))
theorem ac (P:PT) (x0:Int) (x1:Value) (H:AHeap) (h:B2 P x0 x1 H):A 69 [(int .u64 x0),x1] H P:=
  r_fn T0_ok (c:=code) (n:=8) Tryz.func69 body (by kernel_rfl) (main P) (En_mk (x0,x1,()) (by kernel_rfl) ⟨by kernel_rfl,by kernel_rfl,trivial⟩ h)

end F69
namespace F70
abbrev E:=En 14
def O (k:Nat):=ob Tryz.f70 (pth k)
abbrev R (i k:Nat):Code:=.region i ⟨O k⟩ false
def ret (P:PT):EP:=retE T0 14 Tryz.f70 P
abbrev k0:Sk:=[(0,.v),(1,.v),(4,J)]
def B1 (P:PT):Y k0:=fun x0 x1 x4 H=>
  A 123 [(int .u64 (u64.wrap x4))] H (fun v1 H2=>asI .i64 v1 (fun v3=>A 122 [x0,(I 0),(I x4),(I v3),x1] H2 (fun v4 H5=>asTup v4 (fun l6=>P (tuple ⟨[]⟩) H5))))
abbrev k1:Sk:=[(0,.v),(1,.v)]
def B2 (P:PT):Y k1:=fun x0 x1 H=>
  lenK x0 (fun n1=>B1 P x0 x1 (n1:Int) H)
def code:Code:=(.seq (R 0 2) (R 1 3))
theorem body:Tryz.f70.body=some code:=by kernel_rfl
theorem main P:Z 14 k1 (B2 P) code (ret P):=
  (r_seq (b (E k0 (B1 P))) (b (ret P)))
theorem ac (P:PT) (x0 x1:Value) (H:AHeap) (h:B2 P x0 x1 H):A 70 [x0,x1] H P:=
  r_fn T0_ok (c:=code) (n:=14) Tryz.func70 body (by kernel_rfl) (main P) (En_mk (x0,x1,()) (by kernel_rfl) ⟨by kernel_rfl,by kernel_rfl,trivial⟩ h)

end F70
namespace F71
abbrev E:=En 17
def O (k:Nat):=ob Tryz.f71 (pth k)
abbrev R (i k:Nat):Code:=.region i ⟨O k⟩ false
def ret (P:PT):EP:=retE T0 17 Tryz.f71 P
abbrev k0:Sk:=[(0,.i .u64),(1,.i .u64)]
def B1 (P:PT):Y k0:=fun x0 x1 H=>
  A 107 [(int .u64 x0)] H (fun v1 H2=>asI .i64 v1 (fun v3=>A 107 [(int .u64 x1)] H2 (fun v4 H5=>asI .i64 v4 (fun v6=>A 125 [(I v3),(I v6)] H5 (fun v7 H8=>asI .i64 v7 (fun v9=>A 56 [(int .u64 x0)] H8 (fun v10 H11=>A 56 [(int .u64 x1)] H11 (fun v13 H14=>A 126 [v10,v13] H14 (fun v16 H17=>asI .i64 v16 (fun v18=>newK H17 [(I v9),(I v18)] 3 (fun b19 H20=>A 124 [(slice (some ⟨b19,0,none⟩) 2 (2+1))] H20 (fun v21 H22=>asI .i64 v21 (fun v23=>P (I v23) H22)))))))))))))
def B2 (P:PT):Y k0:=fun x0 x1 H=>
  B1 P x0 x1 H
def code:Code:=(.seq (R 0 2) (.seq (R 1 6) .ret))
theorem body:Tryz.f71.body=some code:=by kernel_rfl
theorem main P:Z 17 k0 (B2 P) code (ret P):=
  (r_seq (b (E k0 (B1 P))) (r_seq (b (ret P)) r_ret))
theorem ac (P:PT) (x0 x1:Int) (H:AHeap) (h:B2 P x0 x1 H):A 71 [(int .u64 x0),(int .u64 x1)] H P:=
  r_fn T0_ok (c:=code) (n:=17) Tryz.func71 body (by kernel_rfl) (main P) (En_mk (x0,x1,()) (by kernel_rfl) ⟨by kernel_rfl,by kernel_rfl,trivial⟩ h)

end F71
namespace F72
abbrev E:=En 56
def O (k:Nat):=ob Tryz.f72 (pth k)
abbrev R (i k:Nat):Code:=.region i ⟨O k⟩ false
def ret (P:PT):EP:=retE T0 56 Tryz.f72 P
abbrev k0:Sk:=[]
def B1 (P:PT):Y k0:=fun H=>
  P (bool true) H
abbrev k1:Sk:=[(1,.x),(3,J)]
def o3:=O 467
def B3 (P:PT) (N2:Y k1):Y k1:=fun x1 x3 H=>
  N2 x1 (i64.wrap (x3+1)) H
def B4 (P:PT) (N2:Y k1):Y k0:=fun H=>
  P (bool false) H
def o5:=O 1864
def B5 (P:PT) (N2:Y k1):Y k1:=fun x1 x3 H=>
  ld1 H x1 1 (fun v1=>idxK v1 x3 2 (fun b2 o3=>li H b2 o3 (fun v4=>ld1 H x1 1 (fun v5=>idxK v5 x3 2 (fun b6 o7=>li H b6 (o7+1) (fun v8=>pif (decide ((v4:Int)>v8)) (B4 P N2 H) (pif (decide ((x3:Int)>0)) (ld1 H x1 1 (fun v9=>idxK v9 x3 2 (fun b10 o11=>li H b10 o11 (fun v12=>li H b10 (o11+1) (fun v13=>ld1 H x1 1 (fun v14=>idxK v14 (i64.wrap (x3-1)) 2 (fun b15 o16=>li H b15 o16 (fun v17=>li H b15 (o16+1) (fun v18=>A 129 [(agg ⟨[(I v12),(I v13)]⟩),(agg ⟨[(I v17),(I v18)]⟩)] H (fun v19 H20=>asB v19 (fun v21=>pif v21 (B4 P N2 H20) (B3 P N2 x1 x3 H20)))))))))))) (B3 P N2 x1 x3 H))))))))
theorem q5 (P:PT) (N2:Y k1):QD Tryz.prog T0 56 o5 [(0,false),(1,false),(2,false),(3,false),(4,false),(5,false),(6,false),(7,false),(8,false),(9,false),(10,false),(11,false),(12,false),(13,false),(14,false),(15,false),(16,false),(17,false),(18,false),(19,false),(20,false),(21,false),(22,false),(23,false),(24,false),(25,false),(26,false),(27,false),(28,false),(29,false),(30,false)] (cnd 55 (En 56 k0 (B4 P N2)) (En 56 k1 (B3 P N2))) k1 (B5 P N2):=fun _ _ _ _  => by kernel_rfl
def B6 (P:PT) (N2:Y k1):Y k1:=fun x1 x3 H=>
  ld1 H x1 1 (fun v1=>lenK v1 (fun n2=>pif (decide ((x3:Int)<(n2:Int))) (B5 P N2 x1 x3 H) (B1 P H)))
def L2 (P:PT):Y k1:=fun x1 x3 H=>
  ∃ (I:Y k1) (μ:NTy k1 (AHeap→Nat)),I x1 x3 H∧∀ y1 y3 G,I y1 y3 G→B6 P (fun z1 z3 G'=>I z1 z3 G'∧μ z1 z3 G'<μ y1 y3 G) y1 y3 G
theorem l2 P:LQ k1 (L2 P) (B6 P):=fun ⟨_,_,_⟩ _ ⟨I,μ,h0,hI⟩=>⟨apT _ I,apT _ μ,h0,fun ⟨_,_,_⟩ _ h=>hI _ _ _  h⟩
abbrev k2:Sk:=[(1,.x)]
def o7:=O 28
def B7 (P:PT):Y k2:=fun x1 H=>
  L2 P x1 0 H
def B8 (P:PT):Y k0:=fun H=>
  P (bool false) H
def B9 (P:PT):Y k2:=fun x1 H=>
  li H x1 0 (fun v1=>ld1 H x1 1 (fun v2=>A 127 [(I v1),v2] H (fun v3 H4=>asI .i64 v3 (fun v5=>pif ((v5:Int) != 0) (B8 P H4) (li H4 x1 0 (fun v6=>ld1 H4 x1 1 (fun v7=>A 128 [(I v6),v7] H4 (fun v8 H9=>asB v8 (fun v10=>pif (!v10) (B8 P H9) (B7 P x1 H9))))))))))
abbrev k3:Sk:=[(0,.g [.i,.v])]
def B10 (P:PT):Y k3:=fun x0a x0b H=>
  newK H [(I x0a),x0b] 26 (fun b1 H2=>B9 P b1 H2)
def code:Code:=(.seq (R 0 2) (.seq (.seq (R 1 12) (.cond (.tmp 17) (.seq (R 2 52) .ret) .skip)) (.seq (.seq (R 3 28) (.block 0 (.loop (.seq (.seq (R 4 464) (.cond (.tmp 22) .skip (.exit 0))) (.seq (.block 1 (.seq (.region 6 ⟨o5⟩ true) (.cond (.tmp 55) (.seq (R 7 7460) .ret) .skip))) (R 5 467)))))) (.seq (R 8 30) .ret))))
theorem body:Tryz.f72.body=some code:=by kernel_rfl
theorem main P:Z 56 k3 (B10 P) code (ret P):=
  (r_seq (b (E k2 (B9 P))) (r_seq (r_seq (b (cnd 17 (E k0 (B8 P)) (E k2 (B7 P)))) (r_cond rfl (r_seq (b (ret P)) r_ret) r_skip)) (r_seq (r_seq (b (E k1 (L2 P))) (r_block (rL (l2 P) (fun N2=>(r_seq (r_seq (b (cnd 22 (E k1 (B5 P N2)) (E k0 (B1 P)))) (r_cond rfl r_skip (r_exit (fun _ _ h=>h)))) (r_seq (r_block (r_seq (rD T0_ok mixed [(0,false),(1,false),(2,false),(3,false),(4,false),(5,false),(6,false),(7,false),(8,false),(9,false),(10,false),(11,false),(12,false),(13,false),(14,false),(15,false),(16,false),(17,false),(18,false),(19,false),(20,false),(21,false),(22,false),(23,false),(24,false),(25,false),(26,false),(27,false),(28,false),(29,false),(30,false)] (by kernel_rfl) (q5 P N2)) (r_cond rfl (r_seq (b (ret P)) r_ret) r_skip))) (b (E k1 N2)))))))) (r_seq (b (ret P)) r_ret))))
theorem ac (P:PT) (x0a:Int) (x0b:Value) (H:AHeap) (h:B10 P x0a x0b H):A 72 [(agg ⟨[(I x0a),x0b]⟩)] H P:=
  r_fn T0_ok (c:=code) (n:=56) Tryz.func72 body (by kernel_rfl) (main P) (En_mk (x0a,x0b,()) (by kernel_rfl) ⟨by kernel_rfl,trivial⟩ h)

end F72
namespace F73
abbrev E:=En 76
def O (k:Nat):=ob Tryz.f73 (pth k)
abbrev R (i k:Nat):Code:=.region i ⟨O k⟩ false
def ret (P:PT):EP:=retE T0 76 Tryz.f73 P
abbrev k0:Sk:=[(5,.v)]
def B1 (P:PT):Y k0:=fun x5 H=>
  P x5 H
abbrev k1:Sk:=[(3,.v),(4,.v),(5,.v),(6,J),(7,J)]
def B3 (P:PT) (N2:Y k1):Y k1:=fun x3 x4 x5 x6 x7 H=>
  N2 x3 x4 x5 (i64.wrap (x6+1)) x7 H
def o4:=O 16020
def B4 (P:PT) (N2:Y k1):Y k1:=fun x3 x4 x5 x6 x7 H=>
  idxK x3 x6 1 (fun b1 o2=>ld1 H b1 o2 (fun v3=>pif (Value.oneCell' v3) (newK H [v3] 27 (fun b4 H5=>apK T0 27 H5 x5 (slice (some ⟨b4,0,none⟩) 1 (1+1)) (fun v6 H7=>B3 P N2 x3 x4 v6 x6 x7 H7))) False))
def B5 (P:PT) (N2:Y k1):Y k1:=fun x3 x4 x5 x6 x7 H=>
  N2 x3 x4 x5 x6 (i64.wrap (x7+1)) H
def B6 (P:PT) (N2:Y k1):Y k1:=fun x3 x4 x5 x6 x7 H=>
  idxK x4 x7 1 (fun b1 o2=>ld1 H b1 o2 (fun v3=>pif (Value.oneCell' v3) (newK H [v3] 27 (fun b4 H5=>apK T0 27 H5 x5 (slice (some ⟨b4,0,none⟩) 1 (1+1)) (fun v6 H7=>B5 P N2 x3 x4 v6 x6 x7 H7))) False))
def o7:=O 4004
def B7 (P:PT) (N2:Y k1):Y k1:=fun x3 x4 x5 x6 x7 H=>
  lenK x4 (fun n1=>pif ((x7:Int)==(n1:Int)) (B4 P N2 x3 x4 x5 x6 x7 H) (lenK x3 (fun n2=>pif (decide ((x6:Int)<(n2:Int))) (idxK x4 x7 1 (fun b3 o4=>ld1 H b3 o4 (fun v5=>idxK x3 x6 1 (fun b6 o7=>ld1 H b6 o7 (fun v8=>A 130 [v5,v8] H (fun v9 H10=>asB v9 (fun v11=>pif (!v11) (B4 P N2 x3 x4 x5 x6 x7 H10) (B6 P N2 x3 x4 x5 x6 x7 H10)))))))) (B6 P N2 x3 x4 x5 x6 x7 H))))
theorem q7 (P:PT) (N2:Y k1):QD Tryz.prog T0 76 o7 [(0,false),(1,false),(2,false),(3,false),(4,false),(5,false),(6,false),(7,false),(8,false),(9,false),(10,false),(11,false),(12,false),(13,false),(14,false),(15,false),(16,false),(17,false),(18,false),(19,false),(20,false),(21,false)] (cnd 56 (En 76 k1 (B4 P N2)) (En 76 k1 (B6 P N2))) k1 (B7 P N2):=fun _ _ _ _ _ _ _  => by kernel_rfl
def B8 (P:PT) (N2:Y k1):Y k1:=fun x3 x4 x5 x6 x7 H=>
  lenK x3 (fun n1=>pif (decide ((x6:Int)<(n1:Int))) (B7 P N2 x3 x4 x5 x6 x7 H) (lenK x4 (fun n2=>pif (decide ((x7:Int)<(n2:Int))) (B7 P N2 x3 x4 x5 x6 x7 H) (B1 P x5 H))))
def L2 (P:PT):Y k1:=fun x3 x4 x5 x6 x7 H=>
  ∃ (I:Y k1) (μ:NTy k1 (AHeap→Nat)),I x3 x4 x5 x6 x7 H∧∀ y3 y4 y5 y6 y7 G,I y3 y4 y5 y6 y7 G→B8 P (fun z3 z4 z5 z6 z7 G'=>I z3 z4 z5 z6 z7 G'∧μ z3 z4 z5 z6 z7 G'<μ y3 y4 y5 y6 y7 G) y3 y4 y5 y6 y7 G
theorem l2 P:LQ k1 (L2 P) (B8 P):=fun ⟨_,_,_,_,_,_⟩ _ ⟨I,μ,h0,hI⟩=>⟨apT _ I,apT _ μ,h0,fun ⟨_,_,_,_,_,_⟩ _ h=>hI _ _ _ _ _ _  h⟩
abbrev k2:Sk:=[(3,.v),(4,.v),(5,.v)]
def B9 (P:PT):Y k2:=fun x3 x4 x5 H=>
  L2 P x3 x4 x5 0 0 H
abbrev k3:Sk:=[(3,.v),(4,.v)]
def B10 (P:PT):Y k3:=fun x3 x4 H=>
  newK H [] 27 (fun b1 H2=>B9 P x3 x4 (slice (some ⟨b1,0,none⟩) 0 (0+1)) H2)
abbrev k4:Sk:=[(0,.v)]
def o11:=O 14
def B11 (P:PT):Y k4:=fun x0 H=>
  lenK x0 (fun n1=>sliceK H 27 x0 none (some (I (i64.wrap (Int.tdiv (n1:Int) 2)))) 1 (fun v2=>lenK x0 (fun n3=>sliceK H 27 x0 (some (I (i64.wrap (Int.tdiv (n3:Int) 2)))) none 1 (fun v4=>A 73 [v2] H (fun v5 H6=>(AHeap.le H H6)∧(A 73 [v4] H6 (fun v8 H9=>B10 P v5 v8 H9)))))))
theorem q11 (P:PT):QD Tryz.prog T0 76 o11 [(0,false),(1,false),(2,false),(3,false),(4,false),(6,false),(7,false),(8,false),(9,false),(10,false),(5,true),(11,false),(12,false),(13,false)] (En 76 k3 (B10 P)) k4 (B11 P):=fun _ _ _  => by kernel_rfl
def B12 (P:PT):Y k4:=fun x0 H=>
  P x0 H
def B13 (P:PT):Y k4:=fun x0 H=>
  lenK x0 (fun n1=>pif (decide (((n1:Int):Int)<2)) (B12 P x0 H) (B11 P x0 H))
def B14 (P:PT):Y k4:=fun x0 H=>
  B13 P x0 H
def code:Code:=(.seq (R 0 2) (.seq (.seq (R 1 12) (.cond (.tmp 10) (.seq (R 2 52) .ret) .skip)) (.seq (.region 3 ⟨o11⟩ true) (.seq (R 4 30) (.seq (.seq (R 5 124) (.block 0 (.loop (.seq (.seq (R 6 2000) (.cond (.tmp 34) .skip (.exit 0))) (.block 1 (.seq (.region 7 ⟨o7⟩ true) (.cond (.tmp 56) (.seq (R 8 16020) (R 9 16021)) (.seq (R 10 16022) (R 11 16023))))))))) (.seq (R 12 126) .ret))))))
theorem body:Tryz.f73.body=some code:=by kernel_rfl
theorem main P:Z 76 k4 (B14 P) code (ret P):=
  (r_seq (b (E k4 (B13 P))) (r_seq (r_seq (b (cnd 10 (E k4 (B12 P)) (E k4 (B11 P)))) (r_cond rfl (r_seq (b (ret P)) r_ret) r_skip)) (r_seq (rD T0_ok mixed [(0,false),(1,false),(2,false),(3,false),(4,false),(6,false),(7,false),(8,false),(9,false),(10,false),(5,true),(11,false),(12,false),(13,false)] (by kernel_rfl) (q11 P)) (r_seq (b (E k2 (B9 P))) (r_seq (r_seq (b (E k1 (L2 P))) (r_block (rL (l2 P) (fun N2=>(r_seq (r_seq (b (cnd 34 (E k1 (B7 P N2)) (E k0 (B1 P)))) (r_cond rfl r_skip (r_exit (fun _ _ h=>h)))) (r_block (r_seq (rD T0_ok mixed [(0,false),(1,false),(2,false),(3,false),(4,false),(5,false),(6,false),(7,false),(8,false),(9,false),(10,false),(11,false),(12,false),(13,false),(14,false),(15,false),(16,false),(17,false),(18,false),(19,false),(20,false),(21,false)] (by kernel_rfl) (q7 P N2)) (r_cond rfl (r_seq (b (E k1 (B3 P N2))) (b (E k1 N2))) (r_seq (b (E k1 (B5 P N2))) (b (E k1 N2))))))))))) (r_seq (b (ret P)) r_ret))))))
theorem ac (P:PT) (x0:Value) (H:AHeap) (h:B14 P x0 H):A 73 [x0] H P:=
  r_fn T0_ok (c:=code) (n:=76) Tryz.func73 body (by kernel_rfl) (main P) (En_mk (x0,()) (by kernel_rfl) ⟨by kernel_rfl,trivial⟩ h)

end F73
namespace F74
abbrev E:=En 45
def O (k:Nat):=ob Tryz.f74 (pth k)
abbrev R (i k:Nat):Code:=.region i ⟨O k⟩ false
def ret (P:PT):EP:=retE T0 45 Tryz.f74 P
abbrev k0:Sk:=[(3,.v)]
def B1 (P:PT):Y k0:=fun x3 H=>
  P x3 H
abbrev k1:Sk:=[(1,.x),(3,.v),(4,J)]
def o3:=O 467
def B3 (P:PT) (N2:Y k1):Y k1:=fun x1 x3 x4 H=>
  N2 x1 x3 (i64.wrap (x4+1)) H
abbrev k2:Sk:=[(1,.x),(3,.v),(4,J),(5,.v)]
def o4:=O 3731
def B4 (P:PT) (N2:Y k1):Y k2:=fun x1 x3 x4 x5 H=>
  li H x1 0 (fun v1=>ld1 H x1 1 (fun v2=>ld1 H x1 1 (fun v3=>idxK v3 x4 2 (fun b4 o5=>li H b4 (o5+1) (fun v6=>ld1 H x1 1 (fun v7=>idxK v7 x4 2 (fun b8 o9=>li H b8 o9 (fun v10=>newK H [(I x4)] 2 (fun b11 H12=>A 131 [(agg ⟨[(I v1),v2]⟩),(slice (some ⟨b11,0,none⟩) 1 (1+1)),(I v6),(I v10),x5] H12 (fun v13 H14=>apK T0 27 H14 x3 v13 (fun v16 H17=>B3 P N2 x1 v16 x4 H17)))))))))))
theorem q4 (P:PT) (N2:Y k1):QD Tryz.prog T0 45 o4 [(0,false),(1,false),(2,false),(4,false),(5,false),(6,false),(7,false),(8,false),(9,false),(10,false),(11,false),(12,false),(13,false),(14,false),(15,false),(16,false),(3,false),(17,false),(18,false),(19,false)] (En 45 k1 (B3 P N2)) k2 (B4 P N2):=fun _ _ _ _ _ _  => by kernel_rfl
def o5:=O 3730
def B5 (P:PT) (N2:Y k1):Y k2:=fun x1 x3 x4 x5 H=>
  ld1 H x1 1 (fun v1=>idxK v1 x4 2 (fun b2 o3=>li H b2 (o3+1) (fun v4=>idxK x5 v4 1 (fun b5 o6=>stK H b5 o6 [(bool true)] (fun H7=>B4 P N2 x1 x3 x4 x5 H7)))))
def o6:=O 1864
def B6 (P:PT) (N2:Y k1):Y k1:=fun x1 x3 x4 H=>
  li H x1 0 (fun v1=>mkR H 1 4 [(bool false)] v1 v1 (fun v3 H2=>B5 P N2 x1 x3 x4 v3 H2))
def B7 (P:PT) (N2:Y k1):Y k1:=fun x1 x3 x4 H=>
  ld1 H x1 1 (fun v1=>lenK v1 (fun n2=>pif (decide ((x4:Int)<(n2:Int))) (B6 P N2 x1 x3 x4 H) (B1 P x3 H)))
def L2 (P:PT):Y k1:=fun x1 x3 x4 H=>
  ∃ (I:Y k1) (μ:NTy k1 (AHeap→Nat)),I x1 x3 x4 H∧∀ y1 y3 y4 G,I y1 y3 y4 G→B7 P (fun z1 z3 z4 G'=>I z1 z3 z4 G'∧μ z1 z3 z4 G'<μ y1 y3 y4 G) y1 y3 y4 G
theorem l2 P:LQ k1 (L2 P) (B7 P):=fun ⟨_,_,_,_⟩ _ ⟨I,μ,h0,hI⟩=>⟨apT _ I,apT _ μ,h0,fun ⟨_,_,_,_⟩ _ h=>hI _ _ _ _  h⟩
abbrev k3:Sk:=[(1,.x),(3,.v)]
def B8 (P:PT):Y k3:=fun x1 x3 H=>
  L2 P x1 x3 0 H
abbrev k4:Sk:=[(1,.x)]
def o9:=O 6
def B9 (P:PT):Y k4:=fun x1 H=>
  newK H [] 27 (fun b1 H2=>B8 P x1 (slice (some ⟨b1,0,none⟩) 0 (0+1)) H2)
abbrev k5:Sk:=[(0,.g [.i,.v])]
def B10 (P:PT):Y k5:=fun x0a x0b H=>
  newK H [(I x0a),x0b] 26 (fun b1 H2=>B9 P b1 H2)
def code:Code:=(.seq (R 0 2) (.seq (R 1 6) (.seq (.seq (R 2 28) (.block 0 (.loop (.seq (.seq (R 3 464) (.cond (.tmp 11) .skip (.exit 0))) (.seq (.block 1 (.seq (R 5 1864) (.seq (R 6 3730) (.region 7 ⟨o4⟩ true)))) (R 4 467)))))) (.seq (R 8 30) .ret))))
theorem body:Tryz.f74.body=some code:=by kernel_rfl
theorem main P:Z 45 k5 (B10 P) code (ret P):=
  (r_seq (b (E k4 (B9 P))) (r_seq (b (E k3 (B8 P))) (r_seq (r_seq (b (E k1 (L2 P))) (r_block (rL (l2 P) (fun N2=>(r_seq (r_seq (b (cnd 11 (E k1 (B6 P N2)) (E k0 (B1 P)))) (r_cond rfl r_skip (r_exit (fun _ _ h=>h)))) (r_seq (r_block (r_seq (b (E k2 (B5 P N2))) (r_seq (b (E k2 (B4 P N2))) (rD T0_ok mixed [(0,false),(1,false),(2,false),(4,false),(5,false),(6,false),(7,false),(8,false),(9,false),(10,false),(11,false),(12,false),(13,false),(14,false),(15,false),(16,false),(3,false),(17,false),(18,false),(19,false)] (by kernel_rfl) (q4 P N2))))) (b (E k1 N2)))))))) (r_seq (b (ret P)) r_ret))))
theorem ac (P:PT) (x0a:Int) (x0b:Value) (H:AHeap) (h:B10 P x0a x0b H):A 74 [(agg ⟨[(I x0a),x0b]⟩)] H P:=
  r_fn T0_ok (c:=code) (n:=45) Tryz.func74 body (by kernel_rfl) (main P) (En_mk (x0a,x0b,()) (by kernel_rfl) ⟨by kernel_rfl,trivial⟩ h)

end F74
namespace F75
abbrev E:=En 72
def O (k:Nat):=ob Tryz.f75 (pth k)
abbrev R (i k:Nat):Code:=.region i ⟨O k⟩ false
def ret (P:PT):EP:=retE T0 72 Tryz.f75 P
abbrev k0:Sk:=[(7,.v)]
def B1 (P:PT):Y k0:=fun x7 H=>
  P x7 H
abbrev k1:Sk:=[(2,.i .u64),(3,.x),(7,.v),(8,.v)]
def o3:=O 979
def B3 (P:PT) (N2:Y k1):Y k1:=fun x2 x3 x7 x8 H=>
  sliceK H 2 x8 (some (I 1)) none 1 (fun v1=>N2 x2 x3 x7 v1 H)
abbrev k2:Sk:=[(2,.i .u64),(3,.x),(7,.v),(8,.v),(30,.v),(31,J),(32,J)]
def o5:=O 125223
def B5 (P:PT) (N2:Y k1) (N4:Y k2):Y k2:=fun x2 x3 x7 x8 x30 x31 x32 H=>
  N4 x2 x3 x7 x8 x30 x31 (i64.wrap (x32+1)) H
abbrev k3:Sk:=[(2,.i .u64),(3,.x),(7,.v),(8,.v),(11,J),(30,.v),(31,J),(32,J)]
def B6 (P:PT) (N2:Y k1) (N4:Y k2):Y k3:=fun x2 x3 x7 x8 x11 x30 x31 x32 H=>
  newK H [(I x11)] 2 (fun b1 H2=>apK T0 2 H2 x8 (slice (some ⟨b1,0,none⟩) 1 (1+1)) (fun v3 H4=>B5 P N2 N4 x2 x3 x7 v3 x30 x31 x32 H4))
def o7:=O 8014236
def B7 (P:PT) (N2:Y k1) (N4:Y k2):Y k3:=fun x2 x3 x7 x8 x11 x30 x31 x32 H=>
  idxK x8 0 1 (fun b1 o2=>li H b1 o2 (fun v3=>idxK x7 v3 1 (fun b4 o5=>li H b4 o5 (fun v6=>idxK x7 x11 1 (fun b7 o8=>stK H b7 o8 [(I (i64.wrap (v6+1)))] (fun H9=>B6 P N2 N4 x2 x3 x7 x8 x11 x30 x31 x32 H9))))))
abbrev k4:Sk:=[(2,.i .u64),(3,.x),(7,.v),(8,.v),(10,J),(11,J),(30,.v),(31,J),(32,J)]
def o8:=O 2003558
def B8 (P:PT) (N2:Y k1) (N4:Y k2):Y k4:=fun x2 x3 x7 x8 x10 x11 x30 x31 x32 H=>
  idxK x7 x11 1 (fun b1 o2=>li H b1 o2 (fun v3=>pif (decide ((v3:Int)<0)) (A 110 [(int .u64 x2),(I x10)] H (fun v4 H5=>asB v4 (fun v6=>pif (!v6) (B7 P N2 N4 x2 x3 x7 x8 x11 x30 x31 x32 H5) (B5 P N2 N4 x2 x3 x7 x8 x30 x31 x32 H5)))) (B5 P N2 N4 x2 x3 x7 x8 x30 x31 x32 H)))
abbrev k5:Sk:=[(2,.i .u64),(3,.x),(7,.v),(8,.v),(10,J),(30,.v),(31,J),(32,J)]
def o9:=O 1001778
def B9 (P:PT) (N2:Y k1) (N4:Y k2):Y k5:=fun x2 x3 x7 x8 x10 x30 x31 x32 H=>
  ld1 H x3 1 (fun v1=>idxK v1 x10 2 (fun b2 o3=>li H b2 o3 (fun v4=>li H b2 (o3+1) (fun v5=>idxK x8 0 1 (fun b6 o7=>li H b6 o7 (fun v8=>A 133 [(agg ⟨[(I v4),(I v5)]⟩),(I v8)] H (fun v9 H10=>asI .i64 v9 (fun v11=>B8 P N2 N4 x2 x3 x7 x8 x10 v11 x30 x31 x32 H10))))))))
theorem q9 (P:PT) (N2:Y k1) (N4:Y k2):QD Tryz.prog T0 72 o9 [(0,false),(1,false),(2,false),(3,false),(4,false),(5,false),(6,false),(7,false),(8,false),(9,false)] (En 72 k4 (B8 P N2 N4)) k5 (B9 P N2 N4):=fun _ _ _ _ _ _ _ _ _ _  => by kernel_rfl
def B10 (P:PT) (N2:Y k1) (N4:Y k2):Y k2:=fun x2 x3 x7 x8 x30 x31 x32 H=>
  idxK x30 x32 1 (fun b1 o2=>li H b1 o2 (fun v3=>B9 P N2 N4 x2 x3 x7 x8 v3 x30 x31 x32 H))
def B11 (P:PT) (N2:Y k1) (N4:Y k2):Y k2:=fun x2 x3 x7 x8 x30 x31 x32 H=>
  pif (decide ((x32:Int)<x31)) (B10 P N2 N4 x2 x3 x7 x8 x30 x31 x32 H) (B3 P N2 x2 x3 x7 x8 H)
def L4 (P:PT) (N2:Y k1):Y k2:=fun x2 x3 x7 x8 x30 x31 x32 H=>
  ∃ (I:Y k2) (μ:NTy k2 (AHeap→Nat)),I x2 x3 x7 x8 x30 x31 x32 H∧∀ y2 y3 y7 y8 y30 y31 y32 G,I y2 y3 y7 y8 y30 y31 y32 G→B11 P N2 (fun z2 z3 z7 z8 z30 z31 z32 G'=>I z2 z3 z7 z8 z30 z31 z32 G'∧μ z2 z3 z7 z8 z30 z31 z32 G'<μ y2 y3 y7 y8 y30 y31 y32 G) y2 y3 y7 y8 y30 y31 y32 G
theorem l4 P N2:LQ k2 (L4 P N2) (B11 P N2):=fun ⟨_,_,_,_,_,_,_,_⟩ _ ⟨I,μ,h0,hI⟩=>⟨apT _ I,apT _ μ,h0,fun ⟨_,_,_,_,_,_,_,_⟩ _ h=>hI _ _ _ _ _ _ _ _  h⟩
def o12:=O 3912
def B12 (P:PT) (N2:Y k1):Y k1:=fun x2 x3 x7 x8 H=>
  li H x3 0 (fun v1=>ld1 H x3 1 (fun v2=>idxK x8 0 1 (fun b3 o4=>li H b3 o4 (fun v5=>A 106 [(agg ⟨[(I v1),v2]⟩),(I v5)] H (fun v6 H7=>lenK v6 (fun n9=>L4 P N2 x2 x3 x7 x8 v6 (n9:Int) 0 H7))))))
theorem q12 (P:PT) (N2:Y k1):QD Tryz.prog T0 72 o12 [(0,false),(1,false),(2,false),(3,false),(6,false),(4,false),(5,false)] (En 72 k2 (L4 P N2)) k1 (B12 P N2):=fun _ _ _ _ _ _  => by kernel_rfl
def B13 (P:PT) (N2:Y k1):Y k1:=fun x2 x3 x7 x8 H=>
  lenK x8 (fun n1=>pif (decide (((n1:Int):Int)>0)) (B12 P N2 x2 x3 x7 x8 H) (B1 P x7 H))
def L2 (P:PT):Y k1:=fun x2 x3 x7 x8 H=>
  ∃ (I:Y k1) (μ:NTy k1 (AHeap→Nat)),I x2 x3 x7 x8 H∧∀ y2 y3 y7 y8 G,I y2 y3 y7 y8 G→B13 P (fun z2 z3 z7 z8 G'=>I z2 z3 z7 z8 G'∧μ z2 z3 z7 z8 G'<μ y2 y3 y7 y8 G) y2 y3 y7 y8 G
theorem l2 P:LQ k1 (L2 P) (B13 P):=fun ⟨_,_,_,_,_⟩ _ ⟨I,μ,h0,hI⟩=>⟨apT _ I,apT _ μ,h0,fun ⟨_,_,_,_,_⟩ _ h=>hI _ _ _ _ _  h⟩
abbrev k6:Sk:=[(1,J),(2,.i .u64),(3,.x),(7,.v)]
def B14 (P:PT):Y k6:=fun x1 x2 x3 x7 H=>
  newK H [(I x1)] 2 (fun b1 H2=>L2 P x2 x3 x7 (slice (some ⟨b1,0,none⟩) 1 (1+1)) H2)
def B15 (P:PT):Y k6:=fun x1 x2 x3 x7 H=>
  idxK x7 x1 1 (fun b1 o2=>stK H b1 o2 [(I 0)] (fun H3=>B14 P x1 x2 x3 x7 H3))
abbrev k7:Sk:=[(1,J),(2,.i .u64),(3,.x)]
def B16 (P:PT):Y k7:=fun x1 x2 x3 H=>
  newK H [(I (-1))] 2 (fun b1 H2=>li H2 x3 0 (fun v3=>A 132 [(slice (some ⟨b1,0,none⟩) 1 (1+1)),(I v3)] H2 (fun v4 H5=>B15 P x1 x2 x3 v4 H5)))
abbrev k8:Sk:=[(0,.g [.i,.v]),(1,J),(2,.i .u64)]
def B17 (P:PT):Y k8:=fun x0a x0b x1 x2 H=>
  newK H [(I x0a),x0b] 26 (fun b1 H2=>B16 P x1 x2 b1 H2)
def code:Code:=(.seq (R 0 2) (.seq (R 1 6) (.seq (R 2 14) (.seq (.seq (R 3 60) (.block 0 (.loop (.seq (.seq (R 4 976) (.cond (.tmp 23) .skip (.exit 0))) (.seq (.block 1 (.seq (.region 6 ⟨o12⟩ true) (.block 2 (.loop (.seq (R 7 31304) (.seq (.cond (.tmp 33) .skip (.exit 2)) (.seq (.block 3 (.seq (R 8 500888) (.seq (.region 9 ⟨o9⟩ true) (.seq (R 10 2003558) (.cond (.tmp 55) (.seq (R 11 8014236) (R 12 8014237)) .skip))))) (R 13 125223)))))))) (R 5 979)))))) (.seq (R 14 62) .ret)))))
theorem body:Tryz.f75.body=some code:=by kernel_rfl
theorem main P:Z 72 k8 (B17 P) code (ret P):=
  (r_seq (b (E k7 (B16 P))) (r_seq (b (E k6 (B15 P))) (r_seq (b (E k6 (B14 P))) (r_seq (r_seq (b (E k1 (L2 P))) (r_block (rL (l2 P) (fun N2=>(r_seq (r_seq (b (cnd 23 (E k1 (B12 P N2)) (E k0 (B1 P)))) (r_cond rfl r_skip (r_exit (fun _ _ h=>h)))) (r_seq (r_block (r_seq (rD T0_ok mixed [(0,false),(1,false),(2,false),(3,false),(6,false),(4,false),(5,false)] (by kernel_rfl) (q12 P N2)) (r_block (rL (l4 P N2) (fun N4=>(r_seq (b (cnd 33 (E k2 (B10 P N2 N4)) (E k1 (B3 P N2)))) (r_seq (r_cond rfl r_skip (r_exit (fun _ _ h=>h))) (r_seq (r_block (r_seq (b (E k5 (B9 P N2 N4))) (r_seq (rD T0_ok mixed [(0,false),(1,false),(2,false),(3,false),(4,false),(5,false),(6,false),(7,false),(8,false),(9,false)] (by kernel_rfl) (q9 P N2 N4)) (r_seq (b (cnd 55 (E k3 (B7 P N2 N4)) (E k2 (B5 P N2 N4)))) (r_cond rfl (r_seq (b (E k3 (B6 P N2 N4))) (b (E k2 (B5 P N2 N4)))) r_skip))))) (b (E k2 N4)))))))))) (b (E k1 N2)))))))) (r_seq (b (ret P)) r_ret)))))
theorem ac (P:PT) (x0a:Int) (x0b:Value) (x1 x2:Int) (H:AHeap) (h:B17 P x0a x0b x1 x2 H):A 75 [(agg ⟨[(I x0a),x0b]⟩),(I x1),(int .u64 x2)] H P:=
  r_fn T0_ok (c:=code) (n:=72) Tryz.func75 body (by kernel_rfl) (main P) (En_mk (x0a,x0b,x1,x2,()) (by kernel_rfl) ⟨by kernel_rfl,by kernel_rfl,by kernel_rfl,trivial⟩ h)

end F75
namespace F76
abbrev E:=En 20
def O (k:Nat):=ob Tryz.f76 (pth k)
abbrev R (i k:Nat):Code:=.region i ⟨O k⟩ false
def ret (P:PT):EP:=retE T0 20 Tryz.f76 P
abbrev k0:Sk:=[(1,.v),(2,.x)]
def B1 (P:PT):Y k0:=fun x1 x2 H=>
  lenK x1 (fun n1=>pif (decide (((n1:Int):Int)>0)) (li H x2 0 (fun v2=>ld1 H x2 1 (fun v3=>A 50 [(agg ⟨[(I v2),v3]⟩),x1] H (fun v4 H5=>asB v4 (fun v6=>pif v6 (li H5 x2 0 (fun v7=>ld1 H5 x2 1 (fun v8=>A 51 [(agg ⟨[(I v7),v8]⟩),x1] H5 (fun v9 H10=>lenK v9 (fun n12=>P (bool (((n12:Int):Int)==1)) H10))))) (P (bool false) H5)))))) (P (bool false) H))
abbrev k1:Sk:=[(0,.g [.i,.v]),(1,.v)]
def B2 (P:PT):Y k1:=fun x0a x0b x1 H=>
  newK H [(I x0a),x0b] 26 (fun b1 H2=>B1 P x1 b1 H2)
def code:Code:=(.seq (R 0 2) (.seq (R 1 6) .ret))
theorem body:Tryz.f76.body=some code:=by kernel_rfl
theorem main P:Z 20 k1 (B2 P) code (ret P):=
  (r_seq (b (E k0 (B1 P))) (r_seq (b (ret P)) r_ret))
theorem ac (P:PT) (x0a:Int) (x0b x1:Value) (H:AHeap) (h:B2 P x0a x0b x1 H):A 76 [(agg ⟨[(I x0a),x0b]⟩),x1] H P:=
  r_fn T0_ok (c:=code) (n:=20) Tryz.func76 body (by kernel_rfl) (main P) (En_mk (x0a,x0b,x1,()) (by kernel_rfl) ⟨by kernel_rfl,by kernel_rfl,trivial⟩ h)

end F76
namespace F78
abbrev E:=En 12
def O (k:Nat):=ob Tryz.f78 (pth k)
abbrev R (i k:Nat):Code:=.region i ⟨O k⟩ false
def ret (P:PT):EP:=retE T0 12 Tryz.f78 P
abbrev k0:Sk:=[(0,.v),(1,.v)]
def B1 (P:PT):Y k0:=fun x0 x1 H=>
  lenK x1 (fun n1=>A 60 [x0,(I (n1:Int))] H (fun v2 H3=>asI .i64 v2 (fun v4=>idxK x1 v4 1 (fun b5 o6=>li H3 b5 o6 (fun v7=>P (I v7) H3)))))
def B2 (P:PT):Y k0:=fun x0 x1 H=>
  B1 P x0 x1 H
def code:Code:=(.seq (R 0 2) (.seq (R 1 6) .ret))
theorem body:Tryz.f78.body=some code:=by kernel_rfl
theorem main P:Z 12 k0 (B2 P) code (ret P):=
  (r_seq (b (E k0 (B1 P))) (r_seq (b (ret P)) r_ret))
theorem ac (P:PT) (x0 x1:Value) (H:AHeap) (h:B2 P x0 x1 H):A 78 [x0,x1] H P:=
  r_fn T0_ok (c:=code) (n:=12) Tryz.func78 body (by kernel_rfl) (main P) (En_mk (x0,x1,()) (by kernel_rfl) ⟨by kernel_rfl,by kernel_rfl,trivial⟩ h)

end F78
namespace F81
abbrev E:=En 15
def O (k:Nat):=ob Tryz.f81 (pth k)
abbrev R (i k:Nat):Code:=.region i ⟨O k⟩ false
def ret (P:PT):EP:=retE T0 15 Tryz.f81 P
abbrev k0:Sk:=[(0,J),(1,J),(2,J)]
def B1 (P:PT):Y k0:=fun x0 x1 x2 H=>
  pif (decide ((x0:Int)≥x1)) (P (bool (decide ((x0:Int)≤x2))) H) (P (bool false) H)
def B2 (P:PT):Y k0:=fun x0 x1 x2 H=>
  B1 P x0 x1 x2 H
def code:Code:=(.seq (R 0 2) (.seq (R 1 6) .ret))
theorem body:Tryz.f81.body=some code:=by kernel_rfl
theorem main P:Z 15 k0 (B2 P) code (ret P):=
  (r_seq (b (E k0 (B1 P))) (r_seq (b (ret P)) r_ret))
theorem ac (P:PT) (x0 x1 x2:Int) (H:AHeap) (h:B2 P x0 x1 x2 H):A 81 [(I x0),(I x1),(I x2)] H P:=
  r_fn T0_ok (c:=code) (n:=15) Tryz.func81 body (by kernel_rfl) (main P) (En_mk (x0,x1,x2,()) (by kernel_rfl) ⟨by kernel_rfl,by kernel_rfl,by kernel_rfl,trivial⟩ h)

end F81
namespace F82
abbrev E:=En 38
def O (k:Nat):=ob Tryz.f82 (pth k)
abbrev R (i k:Nat):Code:=.region i ⟨O k⟩ false
def ret (P:PT):EP:=retE T0 38 Tryz.f82 P
abbrev k0:Sk:=[(5,.v)]
def B1 (P:PT):Y k0:=fun x5 H=>
  P x5 H
abbrev k1:Sk:=[(1,J),(2,.x),(5,.v),(6,J)]
def o3:=O 467
def B3 (P:PT) (N2:Y k1):Y k1:=fun x1 x2 x5 x6 H=>
  N2 x1 x2 x5 (i64.wrap (x6+1)) H
def B4 (P:PT) (N2:Y k1):Y k1:=fun x1 x2 x5 x6 H=>
  newK H [(I x6)] 2 (fun b1 H2=>apK T0 2 H2 x5 (slice (some ⟨b1,0,none⟩) 1 (1+1)) (fun v3 H4=>B3 P N2 x1 x2 v3 x6 H4))
def B5 (P:PT) (N2:Y k1):Y k1:=fun x1 x2 x5 x6 H=>
  ld1 H x2 1 (fun v1=>idxK v1 x6 2 (fun b2 o3=>li H b2 o3 (fun v4=>pif ((v4:Int)==x1) (B4 P N2 x1 x2 x5 x6 H) (ld1 H x2 1 (fun v5=>idxK v5 x6 2 (fun b6 o7=>li H b6 (o7+1) (fun v8=>pif ((v8:Int)==x1) (B4 P N2 x1 x2 x5 x6 H) (B3 P N2 x1 x2 x5 x6 H))))))))
def B6 (P:PT) (N2:Y k1):Y k1:=fun x1 x2 x5 x6 H=>
  ld1 H x2 1 (fun v1=>lenK v1 (fun n2=>pif (decide ((x6:Int)<(n2:Int))) (B5 P N2 x1 x2 x5 x6 H) (B1 P x5 H)))
def L2 (P:PT):Y k1:=fun x1 x2 x5 x6 H=>
  ∃ (I:Y k1) (μ:NTy k1 (AHeap→Nat)),I x1 x2 x5 x6 H∧∀ y1 y2 y5 y6 G,I y1 y2 y5 y6 G→B6 P (fun z1 z2 z5 z6 G'=>I z1 z2 z5 z6 G'∧μ z1 z2 z5 z6 G'<μ y1 y2 y5 y6 G) y1 y2 y5 y6 G
theorem l2 P:LQ k1 (L2 P) (B6 P):=fun ⟨_,_,_,_,_⟩ _ ⟨I,μ,h0,hI⟩=>⟨apT _ I,apT _ μ,h0,fun ⟨_,_,_,_,_⟩ _ h=>hI _ _ _ _ _  h⟩
abbrev k2:Sk:=[(1,J),(2,.x),(5,.v)]
def o7:=O 28
def B7 (P:PT):Y k2:=fun x1 x2 x5 H=>
  L2 P x1 x2 x5 0 H
abbrev k3:Sk:=[(1,J),(2,.x)]
def B8 (P:PT):Y k3:=fun x1 x2 H=>
  newK H [] 2 (fun b1 H2=>B7 P x1 x2 (slice (some ⟨b1,0,none⟩) 0 (0+1)) H2)
abbrev k4:Sk:=[(0,.g [.i,.v]),(1,J)]
def B9 (P:PT):Y k4:=fun x0a x0b x1 H=>
  newK H [(I x0a),x0b] 26 (fun b1 H2=>B8 P x1 b1 H2)
def code:Code:=(.seq (R 0 2) (.seq (R 1 6) (.seq (.seq (R 2 28) (.block 0 (.loop (.seq (.seq (R 3 464) (.cond (.tmp 12) .skip (.exit 0))) (.seq (.block 1 (.seq (R 5 1864) (.cond (.tmp 32) (R 6 3730) .skip))) (R 4 467)))))) (.seq (R 7 30) .ret))))
theorem body:Tryz.f82.body=some code:=by kernel_rfl
theorem main P:Z 38 k4 (B9 P) code (ret P):=
  (r_seq (b (E k3 (B8 P))) (r_seq (b (E k2 (B7 P))) (r_seq (r_seq (b (E k1 (L2 P))) (r_block (rL (l2 P) (fun N2=>(r_seq (r_seq (b (cnd 12 (E k1 (B5 P N2)) (E k0 (B1 P)))) (r_cond rfl r_skip (r_exit (fun _ _ h=>h)))) (r_seq (r_block (r_seq (b (cnd 32 (E k1 (B4 P N2)) (E k1 (B3 P N2)))) (r_cond rfl (b (E k1 (B3 P N2))) r_skip))) (b (E k1 N2)))))))) (r_seq (b (ret P)) r_ret))))
theorem ac (P:PT) (x0a:Int) (x0b:Value) (x1:Int) (H:AHeap) (h:B9 P x0a x0b x1 H):A 82 [(agg ⟨[(I x0a),x0b]⟩),(I x1)] H P:=
  r_fn T0_ok (c:=code) (n:=38) Tryz.func82 body (by kernel_rfl) (main P) (En_mk (x0a,x0b,x1,()) (by kernel_rfl) ⟨by kernel_rfl,by kernel_rfl,trivial⟩ h)

end F82
namespace F91
abbrev E:=En 15
def O (k:Nat):=ob Tryz.f91 (pth k)
abbrev R (i k:Nat):Code:=.region i ⟨O k⟩ false
def ret (P:PT):EP:=retE T0 15 Tryz.f91 P
abbrev k0:Sk:=[(0,J),(1,J),(2,J)]
def B1 (P:PT):Y k0:=fun x0 x1 x2 H=>
  pif (decide ((x1:Int)≤x0)) (P (bool (decide ((x0:Int)≤x2))) H) (P (bool false) H)
def B2 (P:PT):Y k0:=fun x0 x1 x2 H=>
  B1 P x0 x1 x2 H
def code:Code:=(.seq (R 0 2) (.seq (R 1 6) .ret))
theorem body:Tryz.f91.body=some code:=by kernel_rfl
theorem main P:Z 15 k0 (B2 P) code (ret P):=
  (r_seq (b (E k0 (B1 P))) (r_seq (b (ret P)) r_ret))
theorem ac (P:PT) (x0 x1 x2:Int) (H:AHeap) (h:B2 P x0 x1 x2 H):A 91 [(I x0),(I x1),(I x2)] H P:=
  r_fn T0_ok (c:=code) (n:=15) Tryz.func91 body (by kernel_rfl) (main P) (En_mk (x0,x1,x2,()) (by kernel_rfl) ⟨by kernel_rfl,by kernel_rfl,by kernel_rfl,trivial⟩ h)

end F91
namespace F104
abbrev E:=En 87
def O (k:Nat):=ob Tryz.f104 (pth k)
abbrev R (i k:Nat):Code:=.region i ⟨O k⟩ false
def ret (P:PT):EP:=retE T0 87 Tryz.f104 P
abbrev k0:Sk:=[(1,J),(4,.x),(12,.v)]
def B1 (P:PT):Y k0:=fun x1 x4 x12 H=>
  A 158 [(I x1),x12] H (fun v1 H2=>agg2 v1 (fun v3 v4=>asI .i64 v3 (fun v5=>stK H2 x4 0 [(I v5),v4] (fun H7=>li H7 x4 0 (fun v8=>ld1 H7 x4 1 (fun v9=>P (agg ⟨[(I v8),v9]⟩) H7))))))
abbrev k1:Sk:=[(1,J),(4,.x),(12,.v),(13,J)]
def B3 (P:PT) (N2:Y k1):Y k1:=fun x1 x4 x12 x13 H=>
  N2 x1 x4 x12 (i64.wrap (x13+1)) H
def B4 (P:PT) (N2:Y k1):Y k1:=fun x1 x4 x12 x13 H=>
  newK H [(I x13),(I (i64.wrap (x13+(i64.wrap (Int.tdiv x1 2)))))] 66 (fun b1 H2=>apK T0 66 H2 x12 (slice (some ⟨b1,0,none⟩) 1 (1+1)) (fun v3 H4=>B3 P N2 x1 x4 v3 x13 H4))
def o5:=O 7826
def B5 (P:PT) (N2:Y k1):Y k1:=fun x1 x4 x12 x13 H=>
  pif (decide ((x13:Int)<(i64.wrap (Int.tdiv x1 2)))) (B4 P N2 x1 x4 x12 x13 H) (B3 P N2 x1 x4 x12 x13 H)
def B6 (P:PT) (N2:Y k1):Y k1:=fun x1 x4 x12 x13 H=>
  nzK x1 (newK H [(I x13),(I (Int.tmod (i64.wrap (x13+1)) x1))] 66 (fun b1 H2=>apK T0 66 H2 x12 (slice (some ⟨b1,0,none⟩) 1 (1+1)) (fun v3 H4=>B5 P N2 x1 x4 v3 x13 H4)))
def B7 (P:PT) (N2:Y k1):Y k1:=fun x1 x4 x12 x13 H=>
  pif (decide ((x13:Int)<x1)) (B6 P N2 x1 x4 x12 x13 H) (B1 P x1 x4 x12 H)
def L2 (P:PT):Y k1:=fun x1 x4 x12 x13 H=>
  ∃ (I:Y k1) (μ:NTy k1 (AHeap→Nat)),I x1 x4 x12 x13 H∧∀ y1 y4 y12 y13 G,I y1 y4 y12 y13 G→B7 P (fun z1 z4 z12 z13 G'=>I z1 z4 z12 z13 G'∧μ z1 z4 z12 z13 G'<μ y1 y4 y12 y13 G) y1 y4 y12 y13 G
theorem l2 P:LQ k1 (L2 P) (B7 P):=fun ⟨_,_,_,_,_⟩ _ ⟨I,μ,h0,hI⟩=>⟨apT _ I,apT _ μ,h0,fun ⟨_,_,_,_,_⟩ _ h=>hI _ _ _ _ _  h⟩
def B8 (P:PT):Y k0:=fun x1 x4 x12 H=>
  L2 P x1 x4 x12 0 H
abbrev k2:Sk:=[(1,J),(4,.x)]
def B9 (P:PT):Y k2:=fun x1 x4 H=>
  newK H [] 66 (fun b1 H2=>B8 P x1 x4 (slice (some ⟨b1,0,none⟩) 0 (0+1)) H2)
abbrev k3:Sk:=[(0,.v),(1,J),(4,.x),(5,J)]
def B11 (P:PT) (N10:Y k3):Y k3:=fun x0 x1 x4 x5 H=>
  N10 x0 x1 x4 (i64.wrap (x5+1)) H
abbrev k4:Sk:=[(1,J),(4,.x),(7,.v)]
def B12 (P:PT) (N10:Y k3):Y k4:=fun x1 x4 x7 H=>
  A 158 [(I x1),x7] H (fun v1 H2=>agg2 v1 (fun v3 v4=>asI .i64 v3 (fun v5=>stK H2 x4 0 [(I v5),v4] (fun H7=>li H7 x4 0 (fun v8=>ld1 H7 x4 1 (fun v9=>P (agg ⟨[(I v8),v9]⟩) H7))))))
abbrev k5:Sk:=[(0,.v),(1,J),(4,.x),(5,J),(7,.v),(8,.b)]
def B13 (P:PT) (N10:Y k3):Y k5:=fun x0 x1 x4 x5 x7 x8 H=>
  pif x8 (B12 P N10 x1 x4 x7 H) (B11 P N10 x0 x1 x4 x5 H)
abbrev k6:Sk:=[(0,.v),(1,J),(4,.x),(5,J),(6,.v),(7,.v),(8,.b),(9,J)]
def B15 (P:PT) (N10:Y k3) (N14:Y k6):Y k6:=fun x0 x1 x4 x5 x6 x7 x8 x9 H=>
  N14 x0 x1 x4 x5 x6 x7 x8 (i64.wrap (x9+2)) H
abbrev k7:Sk:=[(0,.v),(1,J),(4,.x),(5,J),(6,.v),(7,.v),(8,.b),(9,J),(10,J),(11,J)]
def B16 (P:PT) (N10:Y k3) (N14:Y k6):Y k7:=fun x0 x1 x4 x5 x6 x7 x8 x9 x10 x11 H=>
  pif x8 (B15 P N10 N14 x0 x1 x4 x5 x6 x7 ((x10:Int) != x11) x9 H) (B15 P N10 N14 x0 x1 x4 x5 x6 x7 false x9 H)
def B17 (P:PT) (N10:Y k3) (N14:Y k6):Y k7:=fun x0 x1 x4 x5 x6 x7 x8 x9 x10 x11 H=>
  newK H [(I x10),(I x11)] 66 (fun b1 H2=>apK T0 66 H2 x7 (slice (some ⟨b1,0,none⟩) 1 (1+1)) (fun v3 H4=>B16 P N10 N14 x0 x1 x4 x5 x6 v3 x8 x9 x10 x11 H4))
def o18:=O 215368
def B18 (P:PT) (N10:Y k3) (N14:Y k6):Y k6:=fun x0 x1 x4 x5 x6 x7 x8 x9 H=>
  idxK x6 x9 1 (fun b1 o2=>li H b1 o2 (fun v3=>idxK x6 (i64.wrap (x9+1)) 1 (fun b4 o5=>li H b4 o5 (fun v6=>B17 P N10 N14 x0 x1 x4 x5 x6 x7 x8 x9 (i64.wrap (Int.tdiv v3 3)) (i64.wrap (Int.tdiv v6 3)) H))))
theorem q18 (P:PT) (N10:Y k3) (N14:Y k6):QD Tryz.prog T0 87 o18 [(0,false),(1,false),(2,false),(3,false),(4,false),(5,false),(6,false),(7,false),(8,false),(9,false),(10,false),(11,false),(12,false)] (En 87 k7 (B17 P N10 N14)) k6 (B18 P N10 N14):=fun _ _ _ _ _ _ _ _ _ _  => by kernel_rfl
def B19 (P:PT) (N10:Y k3) (N14:Y k6):Y k6:=fun x0 x1 x4 x5 x6 x7 x8 x9 H=>
  lenK x6 (fun n1=>pif (decide ((x9:Int)<(n1:Int))) (B18 P N10 N14 x0 x1 x4 x5 x6 x7 x8 x9 H) (B13 P N10 x0 x1 x4 x5 x7 x8 H))
def L14 (P:PT) (N10:Y k3):Y k6:=fun x0 x1 x4 x5 x6 x7 x8 x9 H=>
  ∃ (I:Y k6) (μ:NTy k6 (AHeap→Nat)),I x0 x1 x4 x5 x6 x7 x8 x9 H∧∀ y0 y1 y4 y5 y6 y7 y8 y9 G,I y0 y1 y4 y5 y6 y7 y8 y9 G→B19 P N10 (fun z0 z1 z4 z5 z6 z7 z8 z9 G'=>I z0 z1 z4 z5 z6 z7 z8 z9 G'∧μ z0 z1 z4 z5 z6 z7 z8 z9 G'<μ y0 y1 y4 y5 y6 y7 y8 y9 G) y0 y1 y4 y5 y6 y7 y8 y9 G
theorem l14 P N10:LQ k6 (L14 P N10) (B19 P N10):=fun ⟨_,_,_,_,_,_,_,_,_⟩ _ ⟨I,μ,h0,hI⟩=>⟨apT _ I,apT _ μ,h0,fun ⟨_,_,_,_,_,_,_,_,_⟩ _ h=>hI _ _ _ _ _ _ _ _ _  h⟩
abbrev k8:Sk:=[(0,.v),(1,J),(4,.x),(5,J),(6,.v),(7,.v),(8,.b)]
def B20 (P:PT) (N10:Y k3):Y k8:=fun x0 x1 x4 x5 x6 x7 x8 H=>
  L14 P N10 x0 x1 x4 x5 x6 x7 x8 0 H
def B21 (P:PT) (N10:Y k3):Y k3:=fun x0 x1 x4 x5 H=>
  A 117 [x0,(I (i64.wrap (3*x1)))] H (fun v1 H2=>newK H2 [] 66 (fun b4 H5=>B20 P N10 x0 x1 x4 x5 v1 (slice (some ⟨b4,0,none⟩) 0 (0+1)) true H5))
def B22 (P:PT) (N10:Y k3):Y k3:=fun x0 x1 x4 x5 H=>
  pif (decide ((x5:Int)<20)) (B21 P N10 x0 x1 x4 x5 H) (B9 P x1 x4 H)
def L10 (P:PT):Y k3:=fun x0 x1 x4 x5 H=>
  ∃ (I:Y k3) (μ:NTy k3 (AHeap→Nat)),I x0 x1 x4 x5 H∧∀ y0 y1 y4 y5 G,I y0 y1 y4 y5 G→B22 P (fun z0 z1 z4 z5 G'=>I z0 z1 z4 z5 G'∧μ z0 z1 z4 z5 G'<μ y0 y1 y4 y5 G) y0 y1 y4 y5 G
theorem l10 P:LQ k3 (L10 P) (B22 P):=fun ⟨_,_,_,_,_⟩ _ ⟨I,μ,h0,hI⟩=>⟨apT _ I,apT _ μ,h0,fun ⟨_,_,_,_,_⟩ _ h=>hI _ _ _ _ _  h⟩
abbrev k9:Sk:=[(0,.v),(1,J),(4,.x)]
def B23 (P:PT):Y k9:=fun x0 x1 x4 H=>
  L10 P x0 x1 x4 0 H
abbrev k10:Sk:=[(0,.v),(1,J)]
def B24 (P:PT):Y k10:=fun x0 x1 H=>
  newK H [(I 0),(slice none 0 0)] 26 (fun b1 H2=>B23 P x0 x1 b1 H2)
def code:Code:=(.seq (R 0 2) (.seq (.seq (R 1 12) (.block 0 (.loop (.seq (.seq (R 2 208) (.cond (.tmp 15) .skip (.exit 0))) (.seq (.block 1 (.seq (R 4 840) (.seq (.seq (R 5 3364) (.block 2 (.loop (.seq (.seq (R 6 53840) (.cond (.tmp 26) .skip (.exit 2))) (.seq (.block 3 (.seq (.region 8 ⟨o18⟩ true) (.seq (R 9 430738) (R 10 430739)))) (R 7 53843)))))) (.seq (R 11 3366) (.cond (.tmp 52) (.seq (R 12 13468) .ret) .skip))))) (R 3 211)))))) (.seq (R 13 14) (.seq (.seq (R 14 60) (.block 4 (.loop (.seq (.seq (R 15 976) (.cond (.tmp 59) .skip (.exit 4))) (.seq (.block 5 (.seq (R 17 3912) (.seq (R 18 7826) (.cond (.tmp 74) (R 19 15654) .skip)))) (R 16 979)))))) (.seq (R 20 62) .ret)))))
theorem body:Tryz.f104.body=some code:=by kernel_rfl
theorem main P:Z 87 k10 (B24 P) code (ret P):=
  (r_seq (b (E k9 (B23 P))) (r_seq (r_seq (b (E k3 (L10 P))) (r_block (rL (l10 P) (fun N10=>(r_seq (r_seq (b (cnd 15 (E k3 (B21 P N10)) (E k2 (B9 P)))) (r_cond rfl r_skip (r_exit (fun _ _ h=>h)))) (r_seq (r_block (r_seq (b (E k8 (B20 P N10))) (r_seq (r_seq (b (E k6 (L14 P N10))) (r_block (rL (l14 P N10) (fun N14=>(r_seq (r_seq (b (cnd 26 (E k6 (B18 P N10 N14)) (E k5 (B13 P N10)))) (r_cond rfl r_skip (r_exit (fun _ _ h=>h)))) (r_seq (r_block (r_seq (rD T0_ok mixed [(0,false),(1,false),(2,false),(3,false),(4,false),(5,false),(6,false),(7,false),(8,false),(9,false),(10,false),(11,false),(12,false)] (by kernel_rfl) (q18 P N10 N14)) (r_seq (b (E k7 (B16 P N10 N14))) (b (E k6 (B15 P N10 N14)))))) (b (E k6 N14)))))))) (r_seq (b (cnd 52 (E k4 (B12 P N10)) (E k3 (B11 P N10)))) (r_cond rfl (r_seq (b (ret P)) r_ret) r_skip))))) (b (E k3 N10)))))))) (r_seq (b (E k0 (B8 P))) (r_seq (r_seq (b (E k1 (L2 P))) (r_block (rL (l2 P) (fun N2=>(r_seq (r_seq (b (cnd 59 (E k1 (B6 P N2)) (E k0 (B1 P)))) (r_cond rfl r_skip (r_exit (fun _ _ h=>h)))) (r_seq (r_block (r_seq (b (E k1 (B5 P N2))) (r_seq (b (cnd 74 (E k1 (B4 P N2)) (E k1 (B3 P N2)))) (r_cond rfl (b (E k1 (B3 P N2))) r_skip)))) (b (E k1 N2)))))))) (r_seq (b (ret P)) r_ret)))))
theorem ac (P:PT) (x0:Value) (x1:Int) (H:AHeap) (h:B24 P x0 x1 H):A 104 [x0,(I x1)] H P:=
  r_fn T0_ok (c:=code) (n:=87) Tryz.func104 body (by kernel_rfl) (main P) (En_mk (x0,x1,()) (by kernel_rfl) ⟨by kernel_rfl,by kernel_rfl,trivial⟩ h)

end F104
namespace F106
abbrev E:=En 25
def O (k:Nat):=ob Tryz.f106 (pth k)
abbrev R (i k:Nat):Code:=.region i ⟨O k⟩ false
def ret (P:PT):EP:=retE T0 25 Tryz.f106 P
abbrev k0:Sk:=[(5,.v)]
def B1 (P:PT):Y k0:=fun x5 H=>
  P x5 H
abbrev k1:Sk:=[(1,J),(5,.v),(9,.v),(10,J),(11,J)]
def B3 (P:PT) (N2:Y k1):Y k1:=fun x1 x5 x9 x10 x11 H=>
  N2 x1 x5 x9 x10 (i64.wrap (x11+1)) H
abbrev k2:Sk:=[(1,J),(5,.v),(6,J),(9,.v),(10,J),(11,J)]
def B4 (P:PT) (N2:Y k1):Y k2:=fun x1 x5 x6 x9 x10 x11 H=>
  newK H [(I x6)] 2 (fun b1 H2=>apK T0 2 H2 x5 (slice (some ⟨b1,0,none⟩) 1 (1+1)) (fun v3 H4=>B3 P N2 x1 v3 x9 x10 x11 H4))
abbrev k3:Sk:=[(1,J),(5,.v),(6,J),(7,.x),(9,.v),(10,J),(11,J)]
def B5 (P:PT) (N2:Y k1):Y k3:=fun x1 x5 x6 x7 x9 x10 x11 H=>
  li H x7 0 (fun v1=>li H x7 1 (fun v2=>A 159 [(agg ⟨[(I v1),(I v2)]⟩),(I x1)] H (fun v3 H4=>asB v3 (fun v5=>pif v5 (B4 P N2 x1 x5 x6 x9 x10 x11 H4) (B3 P N2 x1 x5 x9 x10 x11 H4)))))
def B6 (P:PT) (N2:Y k1):Y k1:=fun x1 x5 x9 x10 x11 H=>
  idxK x9 x11 2 (fun b1 o2=>li H b1 o2 (fun v3=>li H b1 (o2+1) (fun v4=>newK H [(I 0),(I 0)] 66 (fun b5 H6=>stK H6 b5 0 [(I v3),(I v4)] (fun H7=>B5 P N2 x1 x5 x11 b5 x9 x10 x11 H7)))))
def B7 (P:PT) (N2:Y k1):Y k1:=fun x1 x5 x9 x10 x11 H=>
  pif (decide ((x11:Int)<x10)) (B6 P N2 x1 x5 x9 x10 x11 H) (B1 P x5 H)
def L2 (P:PT):Y k1:=fun x1 x5 x9 x10 x11 H=>
  ∃ (I:Y k1) (μ:NTy k1 (AHeap→Nat)),I x1 x5 x9 x10 x11 H∧∀ y1 y5 y9 y10 y11 G,I y1 y5 y9 y10 y11 G→B7 P (fun z1 z5 z9 z10 z11 G'=>I z1 z5 z9 z10 z11 G'∧μ z1 z5 z9 z10 z11 G'<μ y1 y5 y9 y10 y11 G) y1 y5 y9 y10 y11 G
theorem l2 P:LQ k1 (L2 P) (B7 P):=fun ⟨_,_,_,_,_,_⟩ _ ⟨I,μ,h0,hI⟩=>⟨apT _ I,apT _ μ,h0,fun ⟨_,_,_,_,_,_⟩ _ h=>hI _ _ _ _ _ _  h⟩
abbrev k4:Sk:=[(1,J),(2,.x),(5,.v)]
def B8 (P:PT):Y k4:=fun x1 x2 x5 H=>
  ld1 H x2 1 (fun v1=>lenK v1 (fun n2=>L2 P x1 x5 v1 (n2:Int) 0 H))
abbrev k5:Sk:=[(1,J),(2,.x)]
def B9 (P:PT):Y k5:=fun x1 x2 H=>
  B8 P x1 x2 (slice none 0 0) H
abbrev k6:Sk:=[(0,.g [.i,.v]),(1,J)]
def B10 (P:PT):Y k6:=fun x0a x0b x1 H=>
  newK H [(I x0a),x0b] 26 (fun b1 H2=>B9 P x1 b1 H2)
def code:Code:=(.seq (R 0 2) (.seq (R 1 6) (.seq (.seq (R 2 28) (.block 0 (.loop (.seq (R 3 232) (.seq (.cond (.tmp 12) .skip (.exit 0)) (.seq (.block 1 (.seq (R 4 3736) (.seq (R 5 7474) (.cond (.tmp 18) (R 6 14950) .skip)))) (R 7 935))))))) (.seq (R 8 30) .ret))))
theorem body:Tryz.f106.body=some code:=by kernel_rfl
theorem main P:Z 25 k6 (B10 P) code (ret P):=
  (r_seq (b (E k5 (B9 P))) (r_seq (b (E k4 (B8 P))) (r_seq (r_seq (b (E k1 (L2 P))) (r_block (rL (l2 P) (fun N2=>(r_seq (b (cnd 12 (E k1 (B6 P N2)) (E k0 (B1 P)))) (r_seq (r_cond rfl r_skip (r_exit (fun _ _ h=>h))) (r_seq (r_block (r_seq (b (E k3 (B5 P N2))) (r_seq (b (cnd 18 (E k2 (B4 P N2)) (E k1 (B3 P N2)))) (r_cond rfl (b (E k1 (B3 P N2))) r_skip)))) (b (E k1 N2))))))))) (r_seq (b (ret P)) r_ret))))
theorem ac (P:PT) (x0a:Int) (x0b:Value) (x1:Int) (H:AHeap) (h:B10 P x0a x0b x1 H):A 106 [(agg ⟨[(I x0a),x0b]⟩),(I x1)] H P:=
  r_fn T0_ok (c:=code) (n:=25) Tryz.func106 body (by kernel_rfl) (main P) (En_mk (x0a,x0b,x1,()) (by kernel_rfl) ⟨by kernel_rfl,by kernel_rfl,trivial⟩ h)

end F106
namespace F107
abbrev E:=En 5
def O (k:Nat):=ob Tryz.f107 (pth k)
abbrev R (i k:Nat):Code:=.region i ⟨O k⟩ false
def ret (P:PT):EP:=retE T0 5 Tryz.f107 P
abbrev k0:Sk:=[(0,.i .u64)]
def B1 (P:PT):Y k0:=fun x0 H=>
  A 160 [(int .u64 x0)] H (fun v1 H2=>asI .i64 v1 (fun v3=>P (I v3) H2))
def B2 (P:PT):Y k0:=fun x0 H=>
  B1 P x0 H
def code:Code:=(.seq (R 0 2) (.seq (R 1 6) .ret))
theorem body:Tryz.f107.body=some code:=by kernel_rfl
theorem main P:Z 5 k0 (B2 P) code (ret P):=
  (r_seq (b (E k0 (B1 P))) (r_seq (b (ret P)) r_ret))
theorem ac (P:PT) (x0:Int) (H:AHeap) (h:B2 P x0 H):A 107 [(int .u64 x0)] H P:=
  r_fn T0_ok (c:=code) (n:=5) Tryz.func107 body (by kernel_rfl) (main P) (En_mk (x0,()) (by kernel_rfl) ⟨by kernel_rfl,trivial⟩ h)

end F107
namespace F108
abbrev E:=En 9
def O (k:Nat):=ob Tryz.f108 (pth k)
abbrev R (i k:Nat):Code:=.region i ⟨O k⟩ false
def ret (P:PT):EP:=retE T0 9 Tryz.f108 P
abbrev k0:Sk:=[(0,.v),(1,.v)]
def B1 (P:PT):Y k0:=fun x0 x1 H=>
  A 121 [x0,x1] H (fun v1 H2=>asI .i64 v1 (fun v3=>P (bool (decide ((v3:Int)≥0))) H2))
def B2 (P:PT):Y k0:=fun x0 x1 H=>
  B1 P x0 x1 H
def code:Code:=(.seq (R 0 2) (.seq (R 1 6) .ret))
theorem body:Tryz.f108.body=some code:=by kernel_rfl
theorem main P:Z 9 k0 (B2 P) code (ret P):=
  (r_seq (b (E k0 (B1 P))) (r_seq (b (ret P)) r_ret))
theorem ac (P:PT) (x0 x1:Value) (H:AHeap) (h:B2 P x0 x1 H):A 108 [x0,x1] H P:=
  r_fn T0_ok (c:=code) (n:=9) Tryz.func108 body (by kernel_rfl) (main P) (En_mk (x0,x1,()) (by kernel_rfl) ⟨by kernel_rfl,by kernel_rfl,trivial⟩ h)

end F108
namespace F109
abbrev E:=En 7
def O (k:Nat):=ob Tryz.f109 (pth k)
abbrev R (i k:Nat):Code:=.region i ⟨O k⟩ false
def ret (P:PT):EP:=retE T0 7 Tryz.f109 P
abbrev k0:Sk:=[(0,.i .u64),(1,.v)]
def B1 (P:PT):Y k0:=fun x0 x1 H=>
  asP x1 (fun b1 o2=>li H b1 o2 (fun v3=>A 110 [(int .u64 x0),(I v3)] H (fun v4 H5=>asB v4 (fun v6=>P (bool v6) H5))))
def o2:=O 2
def B2 (P:PT):Y k0:=fun x0 x1 H=>
  B1 P x0 x1 H
def code:Code:=(.seq (R 0 2) (.seq (R 1 6) .ret))
theorem body:Tryz.f109.body=some code:=by kernel_rfl
theorem main P:Z 7 k0 (B2 P) code (ret P):=
  (r_seq (b (E k0 (B1 P))) (r_seq (b (ret P)) r_ret))
theorem ac (P:PT) (x0:Int) (x1:Value) (H:AHeap) (h:B2 P x0 x1 H):A 109 [(int .u64 x0),x1] H P:=
  r_fn T0_ok (c:=code) (n:=7) Tryz.func109 body (by kernel_rfl) (main P) (En_mk (x0,x1,()) (by kernel_rfl) ⟨by kernel_rfl,by kernel_rfl,trivial⟩ h)

end F109
namespace F110
abbrev E:=En 10
def O (k:Nat):=ob Tryz.f110 (pth k)
abbrev R (i k:Nat):Code:=.region i ⟨O k⟩ false
def ret (P:PT):EP:=retE T0 10 Tryz.f110 P
abbrev k0:Sk:=[(0,.i .u64),(1,J)]
def B1 (P:PT):Y k0:=fun x0 x1 H=>
  ((0:Int)≤x1)∧(P (bool ((u64.wrap (BitVec.ofInt 64 (Int.fdiv x0 (2^(min (Int.toNat x1) 64)))&&&BitVec.ofInt 64 1).toNat:Int)==1)) H)
def B2 (P:PT):Y k0:=fun x0 x1 H=>
  B1 P x0 x1 H
def code:Code:=(.seq (R 0 2) (.seq (R 1 6) .ret))
theorem body:Tryz.f110.body=some code:=by kernel_rfl
theorem main P:Z 10 k0 (B2 P) code (ret P):=
  (r_seq (b (E k0 (B1 P))) (r_seq (b (ret P)) r_ret))
theorem ac (P:PT) (x0 x1:Int) (H:AHeap) (h:B2 P x0 x1 H):A 110 [(int .u64 x0),(I x1)] H P:=
  r_fn T0_ok (c:=code) (n:=10) Tryz.func110 body (by kernel_rfl) (main P) (En_mk (x0,x1,()) (by kernel_rfl) ⟨by kernel_rfl,by kernel_rfl,trivial⟩ h)

end F110
namespace F111
abbrev E:=En 36
def O (k:Nat):=ob Tryz.f111 (pth k)
abbrev R (i k:Nat):Code:=.region i ⟨O k⟩ false
def ret (P:PT):EP:=retE T0 36 Tryz.f111 P
abbrev k0:Sk:=[]
def B1 (P:PT):Y k0:=fun H=>
  P (I 0) H
abbrev k1:Sk:=[(0,.v),(1,J),(5,J)]
def B3 (P:PT) (N2:Y k1):Y k1:=fun x0 x1 x5 H=>
  N2 x0 x1 (i64.wrap (x5+1)) H
def B4 (P:PT) (N2:Y k1):Y k0:=fun H=>
  P (I 2) H
def o5:=O 840
def B5 (P:PT) (N2:Y k1):Y k1:=fun x0 x1 x5 H=>
  idxK x0 x5 1 (fun b1 o2=>li H b1 o2 (fun v3=>A 81 [(I v3),(I 0),(I (i64.wrap (x1-1)))] H (fun v4 H5=>asB v4 (fun v6=>pif (!v6) (B4 P N2 H5) (pif (decide ((x5:Int)>0)) (idxK x0 x5 1 (fun b7 o8=>li H5 b7 o8 (fun v9=>idxK x0 (i64.wrap (x5-1)) 1 (fun b10 o11=>li H5 b10 o11 (fun v12=>pif (decide ((v9:Int)≤v12)) (B4 P N2 H5) (B3 P N2 x0 x1 x5 H5)))))) (B3 P N2 x0 x1 x5 H5))))))
theorem q5 (P:PT) (N2:Y k1):QD Tryz.prog T0 36 o5 [(0,false),(1,false),(2,false),(3,false),(4,false),(5,false),(6,false),(7,false),(8,false),(9,false),(10,false),(11,false),(12,false),(13,false),(14,false),(15,false),(16,false),(17,false),(18,false),(19,false),(20,false),(21,false),(22,false),(23,false)] (cnd 35 (En 36 k0 (B4 P N2)) (En 36 k1 (B3 P N2))) k1 (B5 P N2):=fun _ _ _ _ _  => by kernel_rfl
def B6 (P:PT) (N2:Y k1):Y k1:=fun x0 x1 x5 H=>
  lenK x0 (fun n1=>pif (decide ((x5:Int)<(n1:Int))) (B5 P N2 x0 x1 x5 H) (B1 P H))
def L2 (P:PT):Y k1:=fun x0 x1 x5 H=>
  ∃ (I:Y k1) (μ:NTy k1 (AHeap→Nat)),I x0 x1 x5 H∧∀ y0 y1 y5 G,I y0 y1 y5 G→B6 P (fun z0 z1 z5 G'=>I z0 z1 z5 G'∧μ z0 z1 z5 G'<μ y0 y1 y5 G) y0 y1 y5 G
theorem l2 P:LQ k1 (L2 P) (B6 P):=fun ⟨_,_,_,_⟩ _ ⟨I,μ,h0,hI⟩=>⟨apT _ I,apT _ μ,h0,fun ⟨_,_,_,_⟩ _ h=>hI _ _ _ _  h⟩
abbrev k2:Sk:=[(0,.v),(1,J)]
def B7 (P:PT):Y k2:=fun x0 x1 H=>
  L2 P x0 x1 0 H
def o8:=O 2
def B8 (P:PT):Y k2:=fun x0 x1 H=>
  B7 P x0 x1 H
def code:Code:=(.seq (R 0 2) (.seq (.seq (R 1 12) (.block 0 (.loop (.seq (.seq (R 2 208) (.cond (.tmp 9) .skip (.exit 0))) (.seq (.block 1 (.seq (.region 4 ⟨o5⟩ true) (.cond (.tmp 35) (.seq (R 5 3364) .ret) .skip))) (R 3 211)))))) (.seq (R 6 14) .ret)))
theorem body:Tryz.f111.body=some code:=by kernel_rfl
theorem main P:Z 36 k2 (B8 P) code (ret P):=
  (r_seq (b (E k2 (B7 P))) (r_seq (r_seq (b (E k1 (L2 P))) (r_block (rL (l2 P) (fun N2=>(r_seq (r_seq (b (cnd 9 (E k1 (B5 P N2)) (E k0 (B1 P)))) (r_cond rfl r_skip (r_exit (fun _ _ h=>h)))) (r_seq (r_block (r_seq (rD T0_ok mixed [(0,false),(1,false),(2,false),(3,false),(4,false),(5,false),(6,false),(7,false),(8,false),(9,false),(10,false),(11,false),(12,false),(13,false),(14,false),(15,false),(16,false),(17,false),(18,false),(19,false),(20,false),(21,false),(22,false),(23,false)] (by kernel_rfl) (q5 P N2)) (r_cond rfl (r_seq (b (ret P)) r_ret) r_skip))) (b (E k1 N2)))))))) (r_seq (b (ret P)) r_ret)))
theorem ac (P:PT) (x0:Value) (x1:Int) (H:AHeap) (h:B8 P x0 x1 H):A 111 [x0,(I x1)] H P:=
  r_fn T0_ok (c:=code) (n:=36) Tryz.func111 body (by kernel_rfl) (main P) (En_mk (x0,x1,()) (by kernel_rfl) ⟨by kernel_rfl,by kernel_rfl,trivial⟩ h)

end F111
namespace F112
abbrev E:=En 68
def O (k:Nat):=ob Tryz.f112 (pth k)
abbrev R (i k:Nat):Code:=.region i ⟨O k⟩ false
def ret (P:PT):EP:=retE T0 68 Tryz.f112 P
abbrev k0:Sk:=[(5,.v)]
def B1 (P:PT):Y k0:=fun x5 H=>
  P x5 H
abbrev k1:Sk:=[(1,.v),(5,.v),(7,.b)]
abbrev k2:Sk:=[(1,.v),(5,.v),(7,.b),(8,J)]
def B4 (P:PT) (N2:Y k1) (N3:Y k2):Y k2:=fun x1 x5 x7 x8 H=>
  N3 x1 x5 x7 (i64.wrap (x8+1)) H
abbrev k3:Sk:=[(1,.v),(5,.v),(8,J)]
def o5:=O 4009115
def B5 (P:PT) (N2:Y k1) (N3:Y k2):Y k3:=fun x1 x5 x8 H=>
  B4 P N2 N3 x1 x5 true x8 H
abbrev k4:Sk:=[(1,.v),(5,.v),(8,J),(9,J),(10,J)]
def B6 (P:PT) (N2:Y k1) (N3:Y k2):Y k4:=fun x1 x5 x8 x9 x10 H=>
  idxK x1 x8 2 (fun b1 o2=>li H b1 (o2+1) (fun v3=>idxK x5 v3 1 (fun b4 o5=>stK H b4 o5 [(I (if x10<x9 then x10 else x9))] (fun H6=>B5 P N2 N3 x1 x5 x8 H6))))
def B7 (P:PT) (N2:Y k1) (N3:Y k2):Y k4:=fun x1 x5 x8 x9 x10 H=>
  idxK x1 x8 2 (fun b1 o2=>li H b1 o2 (fun v3=>idxK x5 v3 1 (fun b4 o5=>stK H b4 o5 [(I (if x10<x9 then x10 else x9))] (fun H6=>B6 P N2 N3 x1 x5 x8 x9 x10 H6))))
abbrev k5:Sk:=[(1,.v),(5,.v),(7,.b),(8,J),(9,J),(10,J)]
def o8:=O 501138
def B8 (P:PT) (N2:Y k1) (N3:Y k2):Y k5:=fun x1 x5 x7 x8 x9 x10 H=>
  pif ((x9:Int) != x10) (B7 P N2 N3 x1 x5 x8 x9 x10 H) (B4 P N2 N3 x1 x5 x7 x8 H)
def o9:=O 250568
def B9 (P:PT) (N2:Y k1) (N3:Y k2):Y k2:=fun x1 x5 x7 x8 H=>
  idxK x1 x8 2 (fun b1 o2=>li H b1 o2 (fun v3=>idxK x5 v3 1 (fun b4 o5=>li H b4 o5 (fun v6=>idxK x1 x8 2 (fun b7 o8=>li H b7 (o8+1) (fun v9=>idxK x5 v9 1 (fun b10 o11=>li H b10 o11 (fun v12=>B8 P N2 N3 x1 x5 x7 x8 v6 v12 H))))))))
theorem q9 (P:PT) (N2:Y k1) (N3:Y k2):QD Tryz.prog T0 68 o9 [(0,false),(1,false),(2,false),(3,false),(4,false),(5,false),(6,false),(7,false),(8,false),(9,false),(10,false),(11,false),(12,false),(13,false),(14,false),(15,false),(16,false),(17,false)] (En 68 k5 (B8 P N2 N3)) k2 (B9 P N2 N3):=fun _ _ _ _ _ _  => by kernel_rfl
def B10 (P:PT) (N2:Y k1) (N3:Y k2):Y k2:=fun x1 x5 x7 x8 H=>
  lenK x1 (fun n1=>pif (decide ((x8:Int)<(n1:Int))) (B9 P N2 N3 x1 x5 x7 x8 H) (N2 x1 x5 x7 H))
def L3 (P:PT) (N2:Y k1):Y k2:=fun x1 x5 x7 x8 H=>
  ∃ (I:Y k2) (μ:NTy k2 (AHeap→Nat)),I x1 x5 x7 x8 H∧∀ y1 y5 y7 y8 G,I y1 y5 y7 y8 G→B10 P N2 (fun z1 z5 z7 z8 G'=>I z1 z5 z7 z8 G'∧μ z1 z5 z7 z8 G'<μ y1 y5 y7 y8 G) y1 y5 y7 y8 G
theorem l3 P N2:LQ k2 (L3 P N2) (B10 P N2):=fun ⟨_,_,_,_,_⟩ _ ⟨I,μ,h0,hI⟩=>⟨apT _ I,apT _ μ,h0,fun ⟨_,_,_,_,_⟩ _ h=>hI _ _ _ _ _  h⟩
def o11:=O 3914
def B11 (P:PT) (N2:Y k1):Y k1:=fun x1 x5 x7 H=>
  L3 P N2 x1 x5 x7 0 H
abbrev k6:Sk:=[(1,.v),(5,.v)]
def B12 (P:PT) (N2:Y k1):Y k6:=fun x1 x5 H=>
  B11 P N2 x1 x5 false H
def B13 (P:PT) (N2:Y k1):Y k1:=fun x1 x5 x7 H=>
  pif x7 (B12 P N2 x1 x5 H) (B1 P x5 H)
def L2 (P:PT):Y k1:=fun x1 x5 x7 H=>
  ∃ (I:Y k1) (μ:NTy k1 (AHeap→Nat)),I x1 x5 x7 H∧∀ y1 y5 y7 G,I y1 y5 y7 G→B13 P (fun z1 z5 z7 G'=>I z1 z5 z7 G'∧μ z1 z5 z7 G'<μ y1 y5 y7 G) y1 y5 y7 G
theorem l2 P:LQ k1 (L2 P) (B13 P):=fun ⟨_,_,_,_⟩ _ ⟨I,μ,h0,hI⟩=>⟨apT _ I,apT _ μ,h0,fun ⟨_,_,_,_⟩ _ h=>hI _ _ _ _  h⟩
def B14 (P:PT):Y k6:=fun x1 x5 H=>
  L2 P x1 x5 true H
abbrev k7:Sk:=[(0,J),(1,.v),(5,.v),(6,J)]
def B16 (P:PT) (N15:Y k7):Y k7:=fun x0 x1 x5 x6 H=>
  N15 x0 x1 x5 (i64.wrap (x6+1)) H
def B17 (P:PT) (N15:Y k7):Y k7:=fun x0 x1 x5 x6 H=>
  newK H [(I x6)] 2 (fun b1 H2=>apK T0 2 H2 x5 (slice (some ⟨b1,0,none⟩) 1 (1+1)) (fun v3 H4=>B16 P N15 x0 x1 v3 x6 H4))
def B18 (P:PT) (N15:Y k7):Y k7:=fun x0 x1 x5 x6 H=>
  pif (decide ((x6:Int)<x0)) (B17 P N15 x0 x1 x5 x6 H) (B14 P x1 x5 H)
def L15 (P:PT):Y k7:=fun x0 x1 x5 x6 H=>
  ∃ (I:Y k7) (μ:NTy k7 (AHeap→Nat)),I x0 x1 x5 x6 H∧∀ y0 y1 y5 y6 G,I y0 y1 y5 y6 G→B18 P (fun z0 z1 z5 z6 G'=>I z0 z1 z5 z6 G'∧μ z0 z1 z5 z6 G'<μ y0 y1 y5 y6 G) y0 y1 y5 y6 G
theorem l15 P:LQ k7 (L15 P) (B18 P):=fun ⟨_,_,_,_,_⟩ _ ⟨I,μ,h0,hI⟩=>⟨apT _ I,apT _ μ,h0,fun ⟨_,_,_,_,_⟩ _ h=>hI _ _ _ _ _  h⟩
abbrev k8:Sk:=[(0,J),(1,.v),(5,.v)]
def B19 (P:PT):Y k8:=fun x0 x1 x5 H=>
  L15 P x0 x1 x5 0 H
abbrev k9:Sk:=[(0,J),(1,.v)]
def B20 (P:PT):Y k9:=fun x0 x1 H=>
  newK H [] 2 (fun b1 H2=>B19 P x0 x1 (slice (some ⟨b1,0,none⟩) 0 (0+1)) H2)
def B21 (P:PT):Y k9:=fun x0 x1 H=>
  B20 P x0 x1 H
def code:Code:=(.seq (R 0 2) (.seq (R 1 6) (.seq (.seq (R 2 28) (.block 0 (.loop (.seq (.seq (R 3 464) (.cond (.tmp 14) .skip (.exit 0))) (.seq (.block 1 (R 5 932)) (R 4 467)))))) (.seq (.seq (R 6 60) (.block 2 (.loop (.seq (.seq (R 7 976) (.cond (.tmp 21) .skip (.exit 2))) (.block 3 (.seq (R 8 1956) (.seq (R 9 3914) (.block 4 (.loop (.seq (.seq (R 10 62640) (.cond (.tmp 25) .skip (.exit 4))) (.seq (.block 5 (.seq (.region 12 ⟨o9⟩ true) (.seq (R 13 501138) (.cond (.tmp 46) (.seq (R 14 2004556) (.seq (R 15 4009114) (R 16 4009115))) .skip)))) (R 11 62643)))))))))))) (.seq (R 17 62) .ret)))))
theorem body:Tryz.f112.body=some code:=by kernel_rfl
theorem main P:Z 68 k9 (B21 P) code (ret P):=
  (r_seq (b (E k9 (B20 P))) (r_seq (b (E k8 (B19 P))) (r_seq (r_seq (b (E k7 (L15 P))) (r_block (rL (l15 P) (fun N15=>(r_seq (r_seq (b (cnd 14 (E k7 (B17 P N15)) (E k6 (B14 P)))) (r_cond rfl r_skip (r_exit (fun _ _ h=>h)))) (r_seq (r_block (b (E k7 (B16 P N15)))) (b (E k7 N15)))))))) (r_seq (r_seq (b (E k1 (L2 P))) (r_block (rL (l2 P) (fun N2=>(r_seq (r_seq (b (cnd 21 (E k6 (B12 P N2)) (E k0 (B1 P)))) (r_cond rfl r_skip (r_exit (fun _ _ h=>h)))) (r_block (r_seq (b (E k1 (B11 P N2))) (r_seq (b (E k2 (L3 P N2))) (r_block (rL (l3 P N2) (fun N3=>(r_seq (r_seq (b (cnd 25 (E k2 (B9 P N2 N3)) (E k1 N2))) (r_cond rfl r_skip (r_exit (fun _ _ h=>h)))) (r_seq (r_block (r_seq (rD T0_ok mixed [(0,false),(1,false),(2,false),(3,false),(4,false),(5,false),(6,false),(7,false),(8,false),(9,false),(10,false),(11,false),(12,false),(13,false),(14,false),(15,false),(16,false),(17,false)] (by kernel_rfl) (q9 P N2 N3)) (r_seq (b (cnd 46 (E k4 (B7 P N2 N3)) (E k2 (B4 P N2 N3)))) (r_cond rfl (r_seq (b (E k4 (B6 P N2 N3))) (r_seq (b (E k3 (B5 P N2 N3))) (b (E k2 (B4 P N2 N3))))) r_skip)))) (b (E k2 N3))))))))))))))) (r_seq (b (ret P)) r_ret)))))
theorem ac (P:PT) (x0:Int) (x1:Value) (H:AHeap) (h:B21 P x0 x1 H):A 112 [(I x0),x1] H P:=
  r_fn T0_ok (c:=code) (n:=68) Tryz.func112 body (by kernel_rfl) (main P) (En_mk (x0,x1,()) (by kernel_rfl) ⟨by kernel_rfl,by kernel_rfl,trivial⟩ h)

end F112
namespace F113
abbrev E:=En 25
def O (k:Nat):=ob Tryz.f113 (pth k)
abbrev R (i k:Nat):Code:=.region i ⟨O k⟩ false
def ret (P:PT):EP:=retE T0 25 Tryz.f113 P
abbrev k0:Sk:=[(1,.x)]
def B1 (P:PT):Y k0:=fun x1 H=>
  li H x1 0 (fun v1=>ld1 H x1 1 (fun v2=>A 161 [(I v1),v2] H (fun v3 H4=>asB v3 (fun v5=>pif v5 (ld1 H4 x1 1 (fun v6=>A 162 [v6,(func (.func 163) ⟨[]⟩ ⟨[]⟩)] H4 (fun v7 H8=>asB v7 (fun v9=>pif v9 (ld1 H8 x1 1 (fun v10=>A 164 [v10,(func (.func 165) ⟨[]⟩ ⟨[]⟩)] H8 (fun v11 H12=>asB v11 (fun v13=>pif v13 (li H12 x1 0 (fun v14=>ld1 H12 x1 1 (fun v15=>A 166 [(I v14),v15] H12 (fun v16 H17=>asB v16 (fun v18=>P (bool v18) H17))))) (P (bool false) H12))))) (P (bool false) H8))))) (P (bool false) H4)))))
abbrev k1:Sk:=[(0,.g [.i,.v])]
def B2 (P:PT):Y k1:=fun x0a x0b H=>
  newK H [(I x0a),x0b] 26 (fun b1 H2=>B1 P b1 H2)
def code:Code:=(.seq (R 0 2) (.seq (R 1 6) .ret))
theorem body:Tryz.f113.body=some code:=by kernel_rfl
theorem main P:Z 25 k1 (B2 P) code (ret P):=
  (r_seq (b (E k0 (B1 P))) (r_seq (b (ret P)) r_ret))
theorem ac (P:PT) (x0a:Int) (x0b:Value) (H:AHeap) (h:B2 P x0a x0b H):A 113 [(agg ⟨[(I x0a),x0b]⟩)] H P:=
  r_fn T0_ok (c:=code) (n:=25) Tryz.func113 body (by kernel_rfl) (main P) (En_mk (x0a,x0b,()) (by kernel_rfl) ⟨by kernel_rfl,trivial⟩ h)

end F113
namespace F114
abbrev E:=En 2
def O (k:Nat):=ob Tryz.f114 (pth k)
abbrev R (i k:Nat):Code:=.region i ⟨O k⟩ false
def ret (P:PT):EP:=retE T0 2 Tryz.f114 P
abbrev k0:Sk:=[]
def B1 (P:PT):Y k0:=fun H=>
  newK H [(string (⟨#[116,104,101,116,97]⟩)),(string (⟨#[107,52]⟩)),(string (⟨#[107,51,51]⟩)),(string (⟨#[112,114,105,115,109]⟩)),(string (⟨#[99,117,98,101]⟩)),(string (⟨#[112,101,116,101,114,115,101,110]⟩)),(string (⟨#[116,105,101,116,122,101]⟩)),(string (⟨#[102,108,111,119,101,114,53]⟩)),(string (⟨#[98,114,105,100,103,101]⟩))] 9 (fun b1 H2=>P (slice (some ⟨b1,0,none⟩) 9 (9+1)) H2)
def B2 (P:PT):Y k0:=fun H=>
  B1 P H
def code:Code:=(.seq (R 0 2) (.seq (R 1 6) .ret))
theorem body:Tryz.f114.body=some code:=by kernel_rfl
theorem main P:Z 2 k0 (B2 P) code (ret P):=
  (r_seq (b (E k0 (B1 P))) (r_seq (b (ret P)) r_ret))
theorem ac (P:PT) (H:AHeap) (h:B2 P H):A 114 [] H P:=
  r_fn T0_ok (c:=code) (n:=2) Tryz.func114 body (by kernel_rfl) (main P) (En_mk (()) (by kernel_rfl) trivial h)

end F114
namespace F115
abbrev E:=En 228
def O (k:Nat):=ob Tryz.f115 (pth k)
abbrev R (i k:Nat):Code:=.region i ⟨O k⟩ false
def ret (P:PT):EP:=retE T0 228 Tryz.f115 P
abbrev k0:Sk:=[(2,.x)]
def B1 (P:PT):Y k0:=fun x2 H=>
  stK H x2 0 [(I 0),(slice none 0 0)] (fun H1=>li H1 x2 0 (fun v2=>ld1 H1 x2 1 (fun v3=>P (tuple ⟨[(agg ⟨[(I v2),v3]⟩),(bool false)]⟩) H1)))
def B2 (P:PT):Y k0:=fun x2 H=>
  newK H [(I 0),(I 1),(I 0),(I 1),(I 0),(I 1)] 66 (fun b1 H2=>A 158 [(I 2),(slice (some ⟨b1,0,none⟩) 3 (3+1))] H2 (fun v3 H4=>agg2 v3 (fun v5 v6=>asI .i64 v5 (fun v7=>stK H4 x2 0 [(I v7),v6] (fun H9=>li H9 x2 0 (fun v10=>ld1 H9 x2 1 (fun v11=>P (tuple ⟨[(agg ⟨[(I v10),v11]⟩),(bool true)]⟩) H9)))))))
def o3:=O 1884
def B3 (P:PT):Y k0:=fun x2 H=>
  newK H [(I 0),(I 1),(I 0),(I 2),(I 0),(I 3),(I 1),(I 2),(I 1),(I 3),(I 2),(I 3)] 66 (fun b1 H2=>A 158 [(I 4),(slice (some ⟨b1,0,none⟩) 6 (6+1))] H2 (fun v3 H4=>agg2 v3 (fun v5 v6=>asI .i64 v5 (fun v7=>stK H4 x2 0 [(I v7),v6] (fun H9=>li H9 x2 0 (fun v10=>ld1 H9 x2 1 (fun v11=>P (tuple ⟨[(agg ⟨[(I v10),v11]⟩),(bool true)]⟩) H9)))))))
abbrev k1:Sk:=[(2,.x),(4,.v)]
def B4 (P:PT):Y k1:=fun x2 x4 H=>
  A 158 [(I 6),x4] H (fun v1 H2=>agg2 v1 (fun v3 v4=>asI .i64 v3 (fun v5=>stK H2 x2 0 [(I v5),v4] (fun H7=>li H7 x2 0 (fun v8=>ld1 H7 x2 1 (fun v9=>P (tuple ⟨[(agg ⟨[(I v8),v9]⟩),(bool true)]⟩) H7))))))
abbrev k2:Sk:=[(2,.x),(4,.v),(5,J)]
def B6 (P:PT) (N5:Y k2):Y k2:=fun x2 x4 x5 H=>
  N5 x2 x4 (i64.wrap (x5+1)) H
def B7 (P:PT) (N5:Y k2):Y k2:=fun x2 x4 x5 H=>
  newK H [(I x5),(I 3),(I x5),(I 4),(I x5),(I 5)] 66 (fun b1 H2=>apK T0 66 H2 x4 (slice (some ⟨b1,0,none⟩) 3 (3+1)) (fun v3 H4=>B6 P N5 x2 v3 x5 H4))
def B8 (P:PT) (N5:Y k2):Y k2:=fun x2 x4 x5 H=>
  pif (decide ((x5:Int)<3)) (B7 P N5 x2 x4 x5 H) (B4 P x2 x4 H)
def L5 (P:PT):Y k2:=fun x2 x4 x5 H=>
  ∃ (I:Y k2) (μ:NTy k2 (AHeap→Nat)),I x2 x4 x5 H∧∀ y2 y4 y5 G,I y2 y4 y5 G→B8 P (fun z2 z4 z5 G'=>I z2 z4 z5 G'∧μ z2 z4 z5 G'<μ y2 y4 y5 G) y2 y4 y5 G
theorem l5 P:LQ k2 (L5 P) (B8 P):=fun ⟨_,_,_,_⟩ _ ⟨I,μ,h0,hI⟩=>⟨apT _ I,apT _ μ,h0,fun ⟨_,_,_,_⟩ _ h=>hI _ _ _ _  h⟩
def B9 (P:PT):Y k1:=fun x2 x4 H=>
  L5 P x2 x4 0 H
def B10 (P:PT):Y k1:=fun x2 x4 H=>
  newK H [(I 0),(I 3),(I 1),(I 4),(I 2),(I 5)] 66 (fun b1 H2=>apK T0 66 H2 x4 (slice (some ⟨b1,0,none⟩) 3 (3+1)) (fun v3 H4=>A 158 [(I 6),v3] H4 (fun v5 H6=>agg2 v5 (fun v7 v8=>asI .i64 v7 (fun v9=>stK H6 x2 0 [(I v9),v8] (fun H11=>li H11 x2 0 (fun v12=>ld1 H11 x2 1 (fun v13=>P (tuple ⟨[(agg ⟨[(I v12),v13]⟩),(bool true)]⟩) H11))))))))
def B11 (P:PT):Y k1:=fun x2 x4 H=>
  newK H [(I 0),(I 1),(I 2)] 2 (fun b1 H2=>A 167 [x4,(slice (some ⟨b1,0,none⟩) 3 (3+1))] H2 (fun v3 H4=>newK H4 [(I 3),(I 4),(I 5)] 2 (fun b6 H7=>A 167 [v3,(slice (some ⟨b6,0,none⟩) 3 (3+1))] H7 (fun v8 H9=>B10 P x2 v8 H9))))
def B12 (P:PT):Y k1:=fun x2 x4 H=>
  A 158 [(I 8),x4] H (fun v1 H2=>agg2 v1 (fun v3 v4=>asI .i64 v3 (fun v5=>stK H2 x2 0 [(I v5),v4] (fun H7=>li H7 x2 0 (fun v8=>ld1 H7 x2 1 (fun v9=>P (tuple ⟨[(agg ⟨[(I v8),v9]⟩),(bool true)]⟩) H7))))))
abbrev k3:Sk:=[(2,.x),(4,.v),(6,J)]
def B14 (P:PT) (N13:Y k3):Y k3:=fun x2 x4 x6 H=>
  N13 x2 x4 (i64.wrap (x6+1)) H
abbrev k4:Sk:=[(2,.x),(4,.v),(6,J),(7,J)]
def B16 (P:PT) (N13:Y k3) (N15:Y k4):Y k4:=fun x2 x4 x6 x7 H=>
  N15 x2 x4 x6 (i64.wrap (2*x7)) H
def B17 (P:PT) (N13:Y k3) (N15:Y k4):Y k4:=fun x2 x4 x6 x7 H=>
  newK H [(I x6),(I (i64.wrap (x6+x7)))] 66 (fun b1 H2=>apK T0 66 H2 x4 (slice (some ⟨b1,0,none⟩) 1 (1+1)) (fun v3 H4=>B16 P N13 N15 x2 v3 x6 x7 H4))
def B18 (P:PT) (N13:Y k3) (N15:Y k4):Y k4:=fun x2 x4 x6 x7 H=>
  pif ((i64.wrap (BitVec.ofInt 64 x6&&&BitVec.ofInt 64 x7).toNat:Int)==0) (B17 P N13 N15 x2 x4 x6 x7 H) (B16 P N13 N15 x2 x4 x6 x7 H)
def B19 (P:PT) (N13:Y k3) (N15:Y k4):Y k4:=fun x2 x4 x6 x7 H=>
  pif (decide ((x7:Int)<8)) (B18 P N13 N15 x2 x4 x6 x7 H) (B14 P N13 x2 x4 x6 H)
def L15 (P:PT) (N13:Y k3):Y k4:=fun x2 x4 x6 x7 H=>
  ∃ (I:Y k4) (μ:NTy k4 (AHeap→Nat)),I x2 x4 x6 x7 H∧∀ y2 y4 y6 y7 G,I y2 y4 y6 y7 G→B19 P N13 (fun z2 z4 z6 z7 G'=>I z2 z4 z6 z7 G'∧μ z2 z4 z6 z7 G'<μ y2 y4 y6 y7 G) y2 y4 y6 y7 G
theorem l15 P N13:LQ k4 (L15 P N13) (B19 P N13):=fun ⟨_,_,_,_,_⟩ _ ⟨I,μ,h0,hI⟩=>⟨apT _ I,apT _ μ,h0,fun ⟨_,_,_,_,_⟩ _ h=>hI _ _ _ _ _  h⟩
def B20 (P:PT) (N13:Y k3):Y k3:=fun x2 x4 x6 H=>
  L15 P N13 x2 x4 x6 1 H
def B21 (P:PT) (N13:Y k3):Y k3:=fun x2 x4 x6 H=>
  pif (decide ((x6:Int)<8)) (B20 P N13 x2 x4 x6 H) (B12 P x2 x4 H)
def L13 (P:PT):Y k3:=fun x2 x4 x6 H=>
  ∃ (I:Y k3) (μ:NTy k3 (AHeap→Nat)),I x2 x4 x6 H∧∀ y2 y4 y6 G,I y2 y4 y6 G→B21 P (fun z2 z4 z6 G'=>I z2 z4 z6 G'∧μ z2 z4 z6 G'<μ y2 y4 y6 G) y2 y4 y6 G
theorem l13 P:LQ k3 (L13 P) (B21 P):=fun ⟨_,_,_,_⟩ _ ⟨I,μ,h0,hI⟩=>⟨apT _ I,apT _ μ,h0,fun ⟨_,_,_,_⟩ _ h=>hI _ _ _ _  h⟩
def B22 (P:PT):Y k1:=fun x2 x4 H=>
  L13 P x2 x4 0 H
def B23 (P:PT):Y k1:=fun x2 x4 H=>
  A 158 [(I 10),x4] H (fun v1 H2=>agg2 v1 (fun v3 v4=>asI .i64 v3 (fun v5=>stK H2 x2 0 [(I v5),v4] (fun H7=>li H7 x2 0 (fun v8=>ld1 H7 x2 1 (fun v9=>P (tuple ⟨[(agg ⟨[(I v8),v9]⟩),(bool true)]⟩) H7))))))
abbrev k5:Sk:=[(2,.x),(4,.v),(8,J)]
def B25 (P:PT) (N24:Y k5):Y k5:=fun x2 x4 x8 H=>
  N24 x2 x4 (i64.wrap (x8+1)) H
def B26 (P:PT) (N24:Y k5):Y k5:=fun x2 x4 x8 H=>
  newK H [(I x8),(I (Int.tmod (i64.wrap (x8+1)) 5)),(I x8),(I (i64.wrap (x8+5))),(I (i64.wrap (x8+5))),(I (i64.wrap ((Int.tmod (i64.wrap (x8+2)) 5)+5)))] 66 (fun b1 H2=>apK T0 66 H2 x4 (slice (some ⟨b1,0,none⟩) 3 (3+1)) (fun v3 H4=>B25 P N24 x2 v3 x8 H4))
def B27 (P:PT) (N24:Y k5):Y k5:=fun x2 x4 x8 H=>
  pif (decide ((x8:Int)<5)) (B26 P N24 x2 x4 x8 H) (B23 P x2 x4 H)
def L24 (P:PT):Y k5:=fun x2 x4 x8 H=>
  ∃ (I:Y k5) (μ:NTy k5 (AHeap→Nat)),I x2 x4 x8 H∧∀ y2 y4 y8 G,I y2 y4 y8 G→B27 P (fun z2 z4 z8 G'=>I z2 z4 z8 G'∧μ z2 z4 z8 G'<μ y2 y4 y8 G) y2 y4 y8 G
theorem l24 P:LQ k5 (L24 P) (B27 P):=fun ⟨_,_,_,_⟩ _ ⟨I,μ,h0,hI⟩=>⟨apT _ I,apT _ μ,h0,fun ⟨_,_,_,_⟩ _ h=>hI _ _ _ _  h⟩
def B28 (P:PT):Y k1:=fun x2 x4 H=>
  L24 P x2 x4 0 H
def B29 (P:PT):Y k1:=fun x2 x4 H=>
  newK H [(I 0),(I 1),(I 10),(I 4),(I 11),(I 5)] 66 (fun b1 H2=>apK T0 66 H2 x4 (slice (some ⟨b1,0,none⟩) 3 (3+1)) (fun v3 H4=>A 158 [(I 12),v3] H4 (fun v5 H6=>agg2 v5 (fun v7 v8=>asI .i64 v7 (fun v9=>stK H6 x2 0 [(I v9),v8] (fun H11=>li H11 x2 0 (fun v12=>ld1 H11 x2 1 (fun v13=>P (tuple ⟨[(agg ⟨[(I v12),v13]⟩),(bool true)]⟩) H11))))))))
def B30 (P:PT):Y k1:=fun x2 x4 H=>
  newK H [(I 0),(I 10),(I 11)] 2 (fun b1 H2=>A 167 [x4,(slice (some ⟨b1,0,none⟩) 3 (3+1))] H2 (fun v3 H4=>B29 P x2 v3 H4))
abbrev k6:Sk:=[(2,.x),(4,.v),(9,.x),(11,J)]
def B32 (P:PT) (N31:Y k6):Y k6:=fun x2 x4 x9 x11 H=>
  N31 x2 x4 x9 (i64.wrap (x11+1)) H
def B33 (P:PT) (N31:Y k6):Y k6:=fun x2 x4 x9 x11 H=>
  ld1 H x9 1 (fun v1=>idxK v1 x11 2 (fun b2 o3=>li H b2 o3 (fun v4=>li H b2 (o3+1) (fun v5=>newK H [(I v4),(I v5)] 66 (fun b6 H7=>apK T0 66 H7 x4 (slice (some ⟨b6,0,none⟩) 1 (1+1)) (fun v8 H9=>B32 P N31 x2 v8 x9 x11 H9))))))
def B34 (P:PT) (N31:Y k6):Y k6:=fun x2 x4 x9 x11 H=>
  ld1 H x9 1 (fun v1=>idxK v1 x11 2 (fun b2 o3=>li H b2 o3 (fun v4=>pif ((v4:Int) != 0) (B33 P N31 x2 x4 x9 x11 H) (B32 P N31 x2 x4 x9 x11 H))))
def B35 (P:PT) (N31:Y k6):Y k6:=fun x2 x4 x9 x11 H=>
  ld1 H x9 1 (fun v1=>lenK v1 (fun n2=>pif (decide ((x11:Int)<(n2:Int))) (B34 P N31 x2 x4 x9 x11 H) (B30 P x2 x4 H)))
def L31 (P:PT):Y k6:=fun x2 x4 x9 x11 H=>
  ∃ (I:Y k6) (μ:NTy k6 (AHeap→Nat)),I x2 x4 x9 x11 H∧∀ y2 y4 y9 y11 G,I y2 y4 y9 y11 G→B35 P (fun z2 z4 z9 z11 G'=>I z2 z4 z9 z11 G'∧μ z2 z4 z9 z11 G'<μ y2 y4 y9 y11 G) y2 y4 y9 y11 G
theorem l31 P:LQ k6 (L31 P) (B35 P):=fun ⟨_,_,_,_,_⟩ _ ⟨I,μ,h0,hI⟩=>⟨apT _ I,apT _ μ,h0,fun ⟨_,_,_,_,_⟩ _ h=>hI _ _ _ _ _  h⟩
abbrev k7:Sk:=[(2,.x),(4,.v),(9,.x)]
def B36 (P:PT):Y k7:=fun x2 x4 x9 H=>
  L31 P x2 x4 x9 0 H
def B37 (P:PT):Y k1:=fun x2 x4 H=>
  A 115 [(string (⟨#[112,101,116,101,114,115,101,110]⟩))] H (fun v1 H2=>tup2 v1 (fun v3 v4=>agg2 v3 (fun v5 v6=>asI .i64 v5 (fun v7=>asB v4 (fun v9=>newK H2 [(I 0),(slice none 0 0)] 26 (fun b10 H11=>stK H11 b10 0 [(I v7),v6] (fun H12=>B36 P x2 x4 b10 H12)))))))
def B38 (P:PT):Y k1:=fun x2 x4 H=>
  newK H [(I 10),(I 11),(I 12),(I 13),(I 14),(I 15),(I 16),(I 17),(I 18),(I 19)] 2 (fun b1 H2=>A 167 [x4,(slice (some ⟨b1,0,none⟩) 10 (10+1))] H2 (fun v3 H4=>A 158 [(I 20),v3] H4 (fun v6 H7=>agg2 v6 (fun v8 v9=>asI .i64 v8 (fun v10=>stK H7 x2 0 [(I v10),v9] (fun H12=>li H12 x2 0 (fun v13=>ld1 H12 x2 1 (fun v14=>P (tuple ⟨[(agg ⟨[(I v13),v14]⟩),(bool true)]⟩) H12))))))))
def B39 (P:PT):Y k1:=fun x2 x4 H=>
  newK H [(I 5),(I 6),(I 7),(I 8),(I 9)] 2 (fun b1 H2=>A 167 [x4,(slice (some ⟨b1,0,none⟩) 5 (5+1))] H2 (fun v3 H4=>B38 P x2 v3 H4))
abbrev k8:Sk:=[(2,.x),(4,.v),(12,J)]
def B41 (P:PT) (N40:Y k8):Y k8:=fun x2 x4 x12 H=>
  N40 x2 x4 (i64.wrap (x12+1)) H
def B42 (P:PT) (N40:Y k8):Y k8:=fun x2 x4 x12 H=>
  newK H [(I x12),(I (i64.wrap (x12+5))),(I x12),(I (i64.wrap (x12+10))),(I x12),(I (i64.wrap (x12+15)))] 66 (fun b1 H2=>apK T0 66 H2 x4 (slice (some ⟨b1,0,none⟩) 3 (3+1)) (fun v3 H4=>B41 P N40 x2 v3 x12 H4))
def B43 (P:PT) (N40:Y k8):Y k8:=fun x2 x4 x12 H=>
  pif (decide ((x12:Int)<5)) (B42 P N40 x2 x4 x12 H) (B39 P x2 x4 H)
def L40 (P:PT):Y k8:=fun x2 x4 x12 H=>
  ∃ (I:Y k8) (μ:NTy k8 (AHeap→Nat)),I x2 x4 x12 H∧∀ y2 y4 y12 G,I y2 y4 y12 G→B43 P (fun z2 z4 z12 G'=>I z2 z4 z12 G'∧μ z2 z4 z12 G'<μ y2 y4 y12 G) y2 y4 y12 G
theorem l40 P:LQ k8 (L40 P) (B43 P):=fun ⟨_,_,_,_⟩ _ ⟨I,μ,h0,hI⟩=>⟨apT _ I,apT _ μ,h0,fun ⟨_,_,_,_⟩ _ h=>hI _ _ _ _  h⟩
def B44 (P:PT):Y k1:=fun x2 x4 H=>
  L40 P x2 x4 0 H
def B45 (P:PT):Y k1:=fun x2 x4 H=>
  newK H [(I 4),(I 9)] 66 (fun b1 H2=>apK T0 66 H2 x4 (slice (some ⟨b1,0,none⟩) 1 (1+1)) (fun v3 H4=>A 158 [(I 10),v3] H4 (fun v5 H6=>agg2 v5 (fun v7 v8=>asI .i64 v7 (fun v9=>stK H6 x2 0 [(I v9),v8] (fun H11=>li H11 x2 0 (fun v12=>ld1 H11 x2 1 (fun v13=>P (tuple ⟨[(agg ⟨[(I v12),v13]⟩),(bool true)]⟩) H11))))))))
abbrev k9:Sk:=[(2,.x),(4,.v),(13,J)]
def B47 (P:PT) (N46:Y k9):Y k9:=fun x2 x4 x13 H=>
  N46 x2 x4 (i64.wrap (x13+5)) H
def B48 (P:PT) (N46:Y k9):Y k9:=fun x2 x4 x13 H=>
  newK H [(I x13),(I (i64.wrap (x13+2))),(I x13),(I (i64.wrap (x13+3))),(I (i64.wrap (x13+1))),(I (i64.wrap (x13+2))),(I (i64.wrap (x13+1))),(I (i64.wrap (x13+3))),(I (i64.wrap (x13+2))),(I (i64.wrap (x13+3))),(I x13),(I (i64.wrap (x13+4))),(I (i64.wrap (x13+1))),(I (i64.wrap (x13+4)))] 66 (fun b1 H2=>apK T0 66 H2 x4 (slice (some ⟨b1,0,none⟩) 7 (7+1)) (fun v3 H4=>B47 P N46 x2 v3 x13 H4))
def B49 (P:PT) (N46:Y k9):Y k9:=fun x2 x4 x13 H=>
  pif (decide ((x13:Int)≤5)) (B48 P N46 x2 x4 x13 H) (B45 P x2 x4 H)
def L46 (P:PT):Y k9:=fun x2 x4 x13 H=>
  ∃ (I:Y k9) (μ:NTy k9 (AHeap→Nat)),I x2 x4 x13 H∧∀ y2 y4 y13 G,I y2 y4 y13 G→B49 P (fun z2 z4 z13 G'=>I z2 z4 z13 G'∧μ z2 z4 z13 G'<μ y2 y4 y13 G) y2 y4 y13 G
theorem l46 P:LQ k9 (L46 P) (B49 P):=fun ⟨_,_,_,_⟩ _ ⟨I,μ,h0,hI⟩=>⟨apT _ I,apT _ μ,h0,fun ⟨_,_,_,_⟩ _ h=>hI _ _ _ _  h⟩
def B50 (P:PT):Y k1:=fun x2 x4 H=>
  L46 P x2 x4 0 H
abbrev k10:Sk:=[(2,.x),(4,.v),(15,.s)]
def B51 (P:PT):Y k10:=fun x2 x4 x15 H=>
  pif (ByteArray.toList x15==ByteArray.toList (⟨#[98,114,105,100,103,101]⟩)) (B50 P x2 x4 H) (B1 P x2 H)
def B52 (P:PT):Y k10:=fun x2 x4 x15 H=>
  pif (ByteArray.toList x15==ByteArray.toList (⟨#[102,108,111,119,101,114,53]⟩)) (B44 P x2 x4 H) (B51 P x2 x4 x15 H)
def B53 (P:PT):Y k10:=fun x2 x4 x15 H=>
  pif (ByteArray.toList x15==ByteArray.toList (⟨#[116,105,101,116,122,101]⟩)) (B37 P x2 x4 H) (B52 P x2 x4 x15 H)
def B54 (P:PT):Y k10:=fun x2 x4 x15 H=>
  pif (ByteArray.toList x15==ByteArray.toList (⟨#[112,101,116,101,114,115,101,110]⟩)) (B28 P x2 x4 H) (B53 P x2 x4 x15 H)
def B55 (P:PT):Y k10:=fun x2 x4 x15 H=>
  pif (ByteArray.toList x15==ByteArray.toList (⟨#[99,117,98,101]⟩)) (B22 P x2 x4 H) (B54 P x2 x4 x15 H)
def B56 (P:PT):Y k10:=fun x2 x4 x15 H=>
  pif (ByteArray.toList x15==ByteArray.toList (⟨#[112,114,105,115,109]⟩)) (B11 P x2 x4 H) (B55 P x2 x4 x15 H)
def B57 (P:PT):Y k10:=fun x2 x4 x15 H=>
  pif (ByteArray.toList x15==ByteArray.toList (⟨#[107,51,51]⟩)) (B9 P x2 x4 H) (B56 P x2 x4 x15 H)
def B58 (P:PT):Y k10:=fun x2 x4 x15 H=>
  pif (ByteArray.toList x15==ByteArray.toList (⟨#[107,52]⟩)) (B3 P x2 H) (B57 P x2 x4 x15 H)
def B59 (P:PT):Y k10:=fun x2 x4 x15 H=>
  pif (ByteArray.toList x15==ByteArray.toList (⟨#[116,104,101,116,97]⟩)) (B2 P x2 H) (B58 P x2 x4 x15 H)
abbrev k11:Sk:=[(0,.s),(2,.x),(4,.v)]
def B60 (P:PT):Y k11:=fun x0 x2 x4 H=>
  B59 P x2 x4 x0 H
abbrev k12:Sk:=[(0,.s),(2,.x)]
def B61 (P:PT):Y k12:=fun x0 x2 H=>
  newK H [] 66 (fun b1 H2=>B60 P x0 x2 (slice (some ⟨b1,0,none⟩) 0 (0+1)) H2)
abbrev k13:Sk:=[(0,.s)]
def B62 (P:PT):Y k13:=fun x0 H=>
  newK H [(I 0),(slice none 0 0)] 26 (fun b1 H2=>B61 P x0 b1 H2)
def code:Code:=(.seq (R 0 2) (.seq (R 1 6) (.seq (.seq (R 2 28) (.block 0 (.seq (R 3 116) (.cond (.tmp 16) (.seq (R 4 468) .ret) (.seq (R 5 470) (.cond (.tmp 23) (.seq (R 6 1884) .ret) (.seq (R 7 1886) (.cond (.tmp 33) (.seq (.seq (R 8 15096) (.block 1 (.loop (.seq (.seq (R 9 241552) (.cond (.tmp 36) .skip (.exit 1))) (.seq (.block 2 (R 11 483108)) (R 10 241555)))))) (.seq (R 12 15098) .ret)) (.seq (R 13 7550) (.cond (.tmp 50) (.seq (R 14 30204) (.seq (R 15 60410) .ret)) (.seq (R 16 30206) (.cond (.tmp 64) (.seq (.seq (R 17 241656) (.block 3 (.loop (.seq (.seq (R 18 3866512) (.cond (.tmp 67) .skip (.exit 3))) (.seq (.block 4 (.seq (R 20 15466056) (.block 5 (.loop (.seq (.seq (R 21 247456912) (.cond (.tmp 71) .skip (.exit 5))) (.seq (.block 6 (.seq (R 23 989827656) (.cond (.tmp 77) (R 24 1979655314) .skip))) (R 22 247456915))))))) (R 19 3866515)))))) (.seq (R 25 241658) .ret)) (.seq (R 26 120830) (.cond (.tmp 88) (.seq (.seq (R 27 966648) (.block 7 (.loop (.seq (.seq (R 28 15466384) (.cond (.tmp 91) .skip (.exit 7))) (.seq (.block 8 (R 30 30932772)) (R 29 15466387)))))) (.seq (R 31 966650) .ret)) (.seq (R 32 483326) (.cond (.tmp 115) (.seq (R 33 1933308) (.seq (.seq (R 34 7733236) (.block 9 (.loop (.seq (.seq (R 35 123731792) (.cond (.tmp 125) .skip (.exit 9))) (.seq (.block 10 (.seq (R 37 494927176) (.cond (.tmp 134) (R 38 989854354) .skip))) (R 36 123731795)))))) (.seq (R 39 7733238) (.seq (R 40 15466478) .ret)))) (.seq (R 41 1933310) (.cond (.tmp 153) (.seq (.seq (R 42 15466488) (.block 11 (.loop (.seq (.seq (R 43 247463824) (.cond (.tmp 156) .skip (.exit 11))) (.seq (.block 12 (R 45 494927652)) (R 44 247463827)))))) (.seq (R 46 15466490) (.seq (R 47 30932982) .ret))) (.seq (R 48 7733246) (.cond (.tmp 181) (.seq (.seq (R 49 61865976) (.block 13 (.loop (.seq (.seq (R 50 989855632) (.cond (.tmp 184) .skip (.exit 13))) (.seq (.block 14 (R 52 1979711268)) (R 51 989855635)))))) (.seq (R 53 61865978) .ret)) .skip)))))))))))))))))))) (.seq (R 54 30) .ret))))
theorem body:Tryz.f115.body=some code:=by kernel_rfl
theorem main P:Z 228 k13 (B62 P) code (ret P):=
  (r_seq (b (E k12 (B61 P))) (r_seq (b (E k11 (B60 P))) (r_seq (r_seq (b (E k10 (B59 P))) (r_block (r_seq (b (cnd 16 (E k0 (B2 P)) (E k10 (B58 P)))) (r_cond rfl (r_seq (b (ret P)) r_ret) (r_seq (b (cnd 23 (E k0 (B3 P)) (E k10 (B57 P)))) (r_cond rfl (r_seq (b (ret P)) r_ret) (r_seq (b (cnd 33 (E k1 (B9 P)) (E k10 (B56 P)))) (r_cond rfl (r_seq (r_seq (b (E k2 (L5 P))) (r_block (rL (l5 P) (fun N5=>(r_seq (r_seq (b (cnd 36 (E k2 (B7 P N5)) (E k1 (B4 P)))) (r_cond rfl r_skip (r_exit (fun _ _ h=>h)))) (r_seq (r_block (b (E k2 (B6 P N5)))) (b (E k2 N5)))))))) (r_seq (b (ret P)) r_ret)) (r_seq (b (cnd 50 (E k1 (B11 P)) (E k10 (B55 P)))) (r_cond rfl (r_seq (b (E k1 (B10 P))) (r_seq (b (ret P)) r_ret)) (r_seq (b (cnd 64 (E k1 (B22 P)) (E k10 (B54 P)))) (r_cond rfl (r_seq (r_seq (b (E k3 (L13 P))) (r_block (rL (l13 P) (fun N13=>(r_seq (r_seq (b (cnd 67 (E k3 (B20 P N13)) (E k1 (B12 P)))) (r_cond rfl r_skip (r_exit (fun _ _ h=>h)))) (r_seq (r_block (r_seq (b (E k4 (L15 P N13))) (r_block (rL (l15 P N13) (fun N15=>(r_seq (r_seq (b (cnd 71 (E k4 (B18 P N13 N15)) (E k3 (B14 P N13)))) (r_cond rfl r_skip (r_exit (fun _ _ h=>h)))) (r_seq (r_block (r_seq (b (cnd 77 (E k4 (B17 P N13 N15)) (E k4 (B16 P N13 N15)))) (r_cond rfl (b (E k4 (B16 P N13 N15))) r_skip))) (b (E k4 N15))))))))) (b (E k3 N13)))))))) (r_seq (b (ret P)) r_ret)) (r_seq (b (cnd 88 (E k1 (B28 P)) (E k10 (B53 P)))) (r_cond rfl (r_seq (r_seq (b (E k5 (L24 P))) (r_block (rL (l24 P) (fun N24=>(r_seq (r_seq (b (cnd 91 (E k5 (B26 P N24)) (E k1 (B23 P)))) (r_cond rfl r_skip (r_exit (fun _ _ h=>h)))) (r_seq (r_block (b (E k5 (B25 P N24)))) (b (E k5 N24)))))))) (r_seq (b (ret P)) r_ret)) (r_seq (b (cnd 115 (E k1 (B37 P)) (E k10 (B52 P)))) (r_cond rfl (r_seq (b (E k7 (B36 P))) (r_seq (r_seq (b (E k6 (L31 P))) (r_block (rL (l31 P) (fun N31=>(r_seq (r_seq (b (cnd 125 (E k6 (B34 P N31)) (E k1 (B30 P)))) (r_cond rfl r_skip (r_exit (fun _ _ h=>h)))) (r_seq (r_block (r_seq (b (cnd 134 (E k6 (B33 P N31)) (E k6 (B32 P N31)))) (r_cond rfl (b (E k6 (B32 P N31))) r_skip))) (b (E k6 N31)))))))) (r_seq (b (E k1 (B29 P))) (r_seq (b (ret P)) r_ret)))) (r_seq (b (cnd 153 (E k1 (B44 P)) (E k10 (B51 P)))) (r_cond rfl (r_seq (r_seq (b (E k8 (L40 P))) (r_block (rL (l40 P) (fun N40=>(r_seq (r_seq (b (cnd 156 (E k8 (B42 P N40)) (E k1 (B39 P)))) (r_cond rfl r_skip (r_exit (fun _ _ h=>h)))) (r_seq (r_block (b (E k8 (B41 P N40)))) (b (E k8 N40)))))))) (r_seq (b (E k1 (B38 P))) (r_seq (b (ret P)) r_ret))) (r_seq (b (cnd 181 (E k1 (B50 P)) (E k0 (B1 P)))) (r_cond rfl (r_seq (r_seq (b (E k9 (L46 P))) (r_block (rL (l46 P) (fun N46=>(r_seq (r_seq (b (cnd 184 (E k9 (B48 P N46)) (E k1 (B45 P)))) (r_cond rfl r_skip (r_exit (fun _ _ h=>h)))) (r_seq (r_block (b (E k9 (B47 P N46)))) (b (E k9 N46)))))))) (r_seq (b (ret P)) r_ret)) r_skip)))))))))))))))))))) (r_seq (b (ret P)) r_ret))))
theorem ac (P:PT) (x0:ByteArray) (H:AHeap) (h:B62 P x0 H):A 115 [(string x0)] H P:=
  r_fn T0_ok (c:=code) (n:=228) Tryz.func115 body (by kernel_rfl) (main P) (En_mk (x0,()) (by kernel_rfl) ⟨by kernel_rfl,trivial⟩ h)

end F115
namespace F116
abbrev E:=En 41
def O (k:Nat):=ob Tryz.f116 (pth k)
abbrev R (i k:Nat):Code:=.region i ⟨O k⟩ false
def ret (P:PT):EP:=retE T0 41 Tryz.f116 P
abbrev k0:Sk:=[(2,.x),(4,.x),(5,.v)]
def B1 (P:PT):Y k0:=fun x2 x4 x5 H=>
  li H x2 0 (fun v1=>A 158 [(I v1),x5] H (fun v2 H3=>agg2 v2 (fun v4 v5=>asI .i64 v4 (fun v6=>stK H3 x4 0 [(I v6),v5] (fun H8=>li H8 x4 0 (fun v9=>ld1 H8 x4 1 (fun v10=>P (agg ⟨[(I v9),v10]⟩) H8)))))))
abbrev k1:Sk:=[(1,.v),(2,.x),(4,.x),(5,.v),(6,J)]
def o3:=O 467
def B3 (P:PT) (N2:Y k1):Y k1:=fun x1 x2 x4 x5 x6 H=>
  N2 x1 x2 x4 x5 (i64.wrap (x6+1)) H
def o4:=O 932
def B4 (P:PT) (N2:Y k1):Y k1:=fun x1 x2 x4 x5 x6 H=>
  ld1 H x2 1 (fun v1=>idxK v1 x6 2 (fun b2 o3=>li H b2 o3 (fun v4=>idxK x1 v4 1 (fun b5 o6=>li H b5 o6 (fun v7=>ld1 H x2 1 (fun v8=>idxK v8 x6 2 (fun b9 o10=>li H b9 (o10+1) (fun v11=>idxK x1 v11 1 (fun b12 o13=>li H b12 o13 (fun v14=>newK H [(I v7),(I v14)] 66 (fun b15 H16=>apK T0 66 H16 x5 (slice (some ⟨b15,0,none⟩) 1 (1+1)) (fun v17 H18=>B3 P N2 x1 x2 x4 v17 x6 H18))))))))))))
theorem q4 (P:PT) (N2:Y k1):QD Tryz.prog T0 41 o4 [(0,false),(1,false),(2,false),(3,false),(4,false),(5,false),(6,false),(7,false),(8,false),(9,false),(10,false),(11,false),(12,false),(13,false),(14,false),(15,false),(16,false),(17,false),(18,false),(19,false),(20,false),(21,false),(22,false)] (En 41 k1 (B3 P N2)) k1 (B4 P N2):=fun _ _ _ _ _ _ _  => by kernel_rfl
def B5 (P:PT) (N2:Y k1):Y k1:=fun x1 x2 x4 x5 x6 H=>
  ld1 H x2 1 (fun v1=>lenK v1 (fun n2=>pif (decide ((x6:Int)<(n2:Int))) (B4 P N2 x1 x2 x4 x5 x6 H) (B1 P x2 x4 x5 H)))
def L2 (P:PT):Y k1:=fun x1 x2 x4 x5 x6 H=>
  ∃ (I:Y k1) (μ:NTy k1 (AHeap→Nat)),I x1 x2 x4 x5 x6 H∧∀ y1 y2 y4 y5 y6 G,I y1 y2 y4 y5 y6 G→B5 P (fun z1 z2 z4 z5 z6 G'=>I z1 z2 z4 z5 z6 G'∧μ z1 z2 z4 z5 z6 G'<μ y1 y2 y4 y5 y6 G) y1 y2 y4 y5 y6 G
theorem l2 P:LQ k1 (L2 P) (B5 P):=fun ⟨_,_,_,_,_,_⟩ _ ⟨I,μ,h0,hI⟩=>⟨apT _ I,apT _ μ,h0,fun ⟨_,_,_,_,_,_⟩ _ h=>hI _ _ _ _ _ _  h⟩
abbrev k2:Sk:=[(1,.v),(2,.x),(4,.x),(5,.v)]
def o6:=O 28
def B6 (P:PT):Y k2:=fun x1 x2 x4 x5 H=>
  L2 P x1 x2 x4 x5 0 H
abbrev k3:Sk:=[(1,.v),(2,.x),(4,.x)]
def B7 (P:PT):Y k3:=fun x1 x2 x4 H=>
  newK H [] 66 (fun b1 H2=>B6 P x1 x2 x4 (slice (some ⟨b1,0,none⟩) 0 (0+1)) H2)
abbrev k4:Sk:=[(0,.g [.i,.v]),(1,.v)]
def B8 (P:PT):Y k4:=fun x0a x0b x1 H=>
  newK H [(I x0a),x0b] 26 (fun b1 H2=>newK H2 [(I 0),(slice none 0 0)] 26 (fun b3 H4=>B7 P x1 b1 b3 H4))
def code:Code:=(.seq (R 0 2) (.seq (R 1 6) (.seq (.seq (R 2 28) (.block 0 (.loop (.seq (.seq (R 3 464) (.cond (.tmp 12) .skip (.exit 0))) (.seq (.block 1 (.region 5 ⟨o4⟩ true)) (R 4 467)))))) (.seq (R 6 30) .ret))))
theorem body:Tryz.f116.body=some code:=by kernel_rfl
theorem main P:Z 41 k4 (B8 P) code (ret P):=
  (r_seq (b (E k3 (B7 P))) (r_seq (b (E k2 (B6 P))) (r_seq (r_seq (b (E k1 (L2 P))) (r_block (rL (l2 P) (fun N2=>(r_seq (r_seq (b (cnd 12 (E k1 (B4 P N2)) (E k0 (B1 P)))) (r_cond rfl r_skip (r_exit (fun _ _ h=>h)))) (r_seq (r_block (rD T0_ok mixed [(0,false),(1,false),(2,false),(3,false),(4,false),(5,false),(6,false),(7,false),(8,false),(9,false),(10,false),(11,false),(12,false),(13,false),(14,false),(15,false),(16,false),(17,false),(18,false),(19,false),(20,false),(21,false),(22,false)] (by kernel_rfl) (q4 P N2))) (b (E k1 N2)))))))) (r_seq (b (ret P)) r_ret))))
theorem ac (P:PT) (x0a:Int) (x0b x1:Value) (H:AHeap) (h:B8 P x0a x0b x1 H):A 116 [(agg ⟨[(I x0a),x0b]⟩),x1] H P:=
  r_fn T0_ok (c:=code) (n:=41) Tryz.func116 body (by kernel_rfl) (main P) (En_mk (x0a,x0b,x1,()) (by kernel_rfl) ⟨by kernel_rfl,by kernel_rfl,trivial⟩ h)

end F116
namespace F117
abbrev E:=En 30
def O (k:Nat):=ob Tryz.f117 (pth k)
abbrev R (i k:Nat):Code:=.region i ⟨O k⟩ false
def ret (P:PT):EP:=retE T0 30 Tryz.f117 P
abbrev k0:Sk:=[(5,.v)]
def B1 (P:PT):Y k0:=fun x5 H=>
  P x5 H
abbrev k1:Sk:=[(0,.v),(1,J),(5,.v),(6,J)]
def B3 (P:PT) (N2:Y k1):Y k1:=fun x0 x1 x5 x6 H=>
  N2 x0 x1 x5 (i64.wrap (x6+1)) H
abbrev k2:Sk:=[(0,.v),(1,J),(5,.v),(6,J),(7,J)]
def o4:=O 1865
def B4 (P:PT) (N2:Y k1):Y k2:=fun x0 x1 x5 x6 x7 H=>
  sliceK H 2 x5 none (some (I x7)) 1 (fun v1=>sliceK H 2 x5 (some (I x7)) none 1 (fun v2=>(A 168 [v1] H (fun v3 H4=>(sliceK H4 2 x5 (some (I x7)) none 1 (fun v6=>(v6=v2)∧(H4=H4)))∧(newK H4 [(I x6)] 2 (fun b7 H8=>apK T0 2 H8 v3 (slice (some ⟨b7,0,none⟩) 1 (1+1)) (fun v9 H10=>(sliceK H10 2 x5 (some (I x7)) none 1 (fun v11=>(v11=v2)∧(H10=H10)))∧(apK T0 2 H10 v9 v2 (fun v12 H13=>B3 P N2 x0 x1 v12 x6 H13)))))))∧(newK H [(I x6)] 2 (fun b14 H15=>A 168 [v1] H15 (fun v16 H17=>(sliceK H17 2 x5 (some (I x7)) none 1 (fun v19=>(v19=v2)∧(H17=H17)))∧(apK T0 2 H17 v16 (slice (some ⟨b14,0,none⟩) 1 (1+1)) (fun v20 H21=>(sliceK H21 2 x5 (some (I x7)) none 1 (fun v22=>(v22=v2)∧(H21=H21)))∧(apK T0 2 H21 v20 v2 (fun v23 H24=>B3 P N2 x0 x1 v23 x6 H24)))))))))
theorem q4 (P:PT) (N2:Y k1):QT Tryz.prog T0 30 o4 (.op 0 [] (.op 1 [] (.op 2 [] (.op 4 [] (.op 7 [] (.op 8 [] (.op 9 [] (.alt (.op 3 [9] (.op 5 [] (.op 6 [9] (.op 10 [] (.op 11 [] .done))))) (.op 5 [] (.op 3 [9] (.op 6 [9] (.op 10 [] (.op 11 [] .done))))))))))))) (En 30 k1 (B3 P N2)) k2 (B4 P N2):=fun _ _ _ _ _ _ _  => by kernel_rfl
def B5 (P:PT) (N2:Y k1):Y k1:=fun x0 x1 x5 x6 H=>
  A 60 [x0,(I (i64.wrap (x6+1)))] H (fun v1 H2=>asI .i64 v1 (fun v3=>B4 P N2 x0 x1 x5 x6 v3 H2))
def B6 (P:PT) (N2:Y k1):Y k1:=fun x0 x1 x5 x6 H=>
  pif (decide ((x6:Int)<x1)) (B5 P N2 x0 x1 x5 x6 H) (B1 P x5 H)
def L2 (P:PT):Y k1:=fun x0 x1 x5 x6 H=>
  ∃ (I:Y k1) (μ:NTy k1 (AHeap→Nat)),I x0 x1 x5 x6 H∧∀ y0 y1 y5 y6 G,I y0 y1 y5 y6 G→B6 P (fun z0 z1 z5 z6 G'=>I z0 z1 z5 z6 G'∧μ z0 z1 z5 z6 G'<μ y0 y1 y5 y6 G) y0 y1 y5 y6 G
theorem l2 P:LQ k1 (L2 P) (B6 P):=fun ⟨_,_,_,_,_⟩ _ ⟨I,μ,h0,hI⟩=>⟨apT _ I,apT _ μ,h0,fun ⟨_,_,_,_,_⟩ _ h=>hI _ _ _ _ _  h⟩
abbrev k3:Sk:=[(0,.v),(1,J),(5,.v)]
def B7 (P:PT):Y k3:=fun x0 x1 x5 H=>
  L2 P x0 x1 x5 0 H
abbrev k4:Sk:=[(0,.v),(1,J)]
def B8 (P:PT):Y k4:=fun x0 x1 H=>
  newK H [] 2 (fun b1 H2=>B7 P x0 x1 (slice (some ⟨b1,0,none⟩) 0 (0+1)) H2)
def B9 (P:PT):Y k4:=fun x0 x1 H=>
  B8 P x0 x1 H
def code:Code:=(.seq (R 0 2) (.seq (R 1 6) (.seq (.seq (R 2 28) (.block 0 (.loop (.seq (.seq (R 3 464) (.cond (.tmp 11) .skip (.exit 0))) (.seq (.block 1 (.seq (R 5 1864) (.region 6 ⟨o4⟩ true))) (R 4 467)))))) (.seq (R 7 30) .ret))))
theorem body:Tryz.f117.body=some code:=by kernel_rfl
theorem main P:Z 30 k4 (B9 P) code (ret P):=
  (r_seq (b (E k4 (B8 P))) (r_seq (b (E k3 (B7 P))) (r_seq (r_seq (b (E k1 (L2 P))) (r_block (rL (l2 P) (fun N2=>(r_seq (r_seq (b (cnd 11 (E k1 (B5 P N2)) (E k0 (B1 P)))) (r_cond rfl r_skip (r_exit (fun _ _ h=>h)))) (r_seq (r_block (r_seq (b (E k2 (B4 P N2))) (rT T0_ok mixed (.op 0 [] (.op 1 [] (.op 2 [] (.op 4 [] (.op 7 [] (.op 8 [] (.op 9 [] (.alt (.op 3 [9] (.op 5 [] (.op 6 [9] (.op 10 [] (.op 11 [] .done))))) (.op 5 [] (.op 3 [9] (.op 6 [9] (.op 10 [] (.op 11 [] .done))))))))))))) (by kernel_rfl) (q4 P N2)))) (b (E k1 N2)))))))) (r_seq (b (ret P)) r_ret))))
theorem ac (P:PT) (x0:Value) (x1:Int) (H:AHeap) (h:B9 P x0 x1 H):A 117 [x0,(I x1)] H P:=
  r_fn T0_ok (c:=code) (n:=30) Tryz.func117 body (by kernel_rfl) (main P) (En_mk (x0,x1,()) (by kernel_rfl) ⟨by kernel_rfl,by kernel_rfl,trivial⟩ h)

end F117
namespace F118
abbrev E:=En 47
def O (k:Nat):=ob Tryz.f118 (pth k)
abbrev R (i k:Nat):Code:=.region i ⟨O k⟩ false
def ret (P:PT):EP:=retE T0 47 Tryz.f118 P
abbrev k0:Sk:=[(2,.x),(3,.x),(4,.x),(5,.v)]
def B1 (P:PT):Y k0:=fun x2 x3 x4 x5 H=>
  li H x2 0 (fun v1=>li H x3 0 (fun v2=>A 158 [(I (i64.wrap (v1+v2))),x5] H (fun v3 H4=>agg2 v3 (fun v5 v6=>asI .i64 v5 (fun v7=>stK H4 x4 0 [(I v7),v6] (fun H9=>li H9 x4 0 (fun v10=>ld1 H9 x4 1 (fun v11=>P (agg ⟨[(I v10),v11]⟩) H9))))))))
abbrev k1:Sk:=[(2,.x),(3,.x),(4,.x),(5,.v),(6,J)]
def o3:=O 467
def B3 (P:PT) (N2:Y k1):Y k1:=fun x2 x3 x4 x5 x6 H=>
  N2 x2 x3 x4 x5 (i64.wrap (x6+1)) H
def o4:=O 932
def B4 (P:PT) (N2:Y k1):Y k1:=fun x2 x3 x4 x5 x6 H=>
  ld1 H x3 1 (fun v1=>idxK v1 x6 2 (fun b2 o3=>li H b2 o3 (fun v4=>li H x2 0 (fun v5=>ld1 H x3 1 (fun v6=>idxK v6 x6 2 (fun b7 o8=>li H b7 (o8+1) (fun v9=>li H x2 0 (fun v10=>newK H [(I (i64.wrap (v4+v5))),(I (i64.wrap (v9+v10)))] 66 (fun b11 H12=>apK T0 66 H12 x5 (slice (some ⟨b11,0,none⟩) 1 (1+1)) (fun v13 H14=>B3 P N2 x2 x3 x4 v13 x6 H14))))))))))
theorem q4 (P:PT) (N2:Y k1):QD Tryz.prog T0 47 o4 [(0,false),(1,false),(2,false),(3,false),(4,false),(5,false),(6,false),(7,false),(8,false),(9,false),(10,false),(11,false),(12,false),(13,false),(14,false),(15,false),(16,false),(17,false),(18,false),(19,false),(20,false),(21,false),(22,false)] (En 47 k1 (B3 P N2)) k1 (B4 P N2):=fun _ _ _ _ _ _ _  => by kernel_rfl
def B5 (P:PT) (N2:Y k1):Y k1:=fun x2 x3 x4 x5 x6 H=>
  ld1 H x3 1 (fun v1=>lenK v1 (fun n2=>pif (decide ((x6:Int)<(n2:Int))) (B4 P N2 x2 x3 x4 x5 x6 H) (B1 P x2 x3 x4 x5 H)))
def L2 (P:PT):Y k1:=fun x2 x3 x4 x5 x6 H=>
  ∃ (I:Y k1) (μ:NTy k1 (AHeap→Nat)),I x2 x3 x4 x5 x6 H∧∀ y2 y3 y4 y5 y6 G,I y2 y3 y4 y5 y6 G→B5 P (fun z2 z3 z4 z5 z6 G'=>I z2 z3 z4 z5 z6 G'∧μ z2 z3 z4 z5 z6 G'<μ y2 y3 y4 y5 y6 G) y2 y3 y4 y5 y6 G
theorem l2 P:LQ k1 (L2 P) (B5 P):=fun ⟨_,_,_,_,_,_⟩ _ ⟨I,μ,h0,hI⟩=>⟨apT _ I,apT _ μ,h0,fun ⟨_,_,_,_,_,_⟩ _ h=>hI _ _ _ _ _ _  h⟩
def B6 (P:PT):Y k0:=fun x2 x3 x4 x5 H=>
  L2 P x2 x3 x4 x5 0 H
abbrev k2:Sk:=[(2,.x),(3,.x),(4,.x)]
def B7 (P:PT):Y k2:=fun x2 x3 x4 H=>
  newK H [] 66 (fun b1 H2=>ld1 H2 x2 1 (fun v3=>apK T0 66 H2 (slice (some ⟨b1,0,none⟩) 0 (0+1)) v3 (fun v4 H5=>B6 P x2 x3 x4 v4 H5)))
abbrev k3:Sk:=[(0,.g [.i,.v]),(1,.g [.i,.v])]
def o8:=O 2
def B8 (P:PT):Y k3:=fun x0a x0b x1a x1b H=>
  newK H [(I x0a),x0b] 26 (fun b1 H2=>newK H2 [(I x1a),x1b] 26 (fun b3 H4=>newK H4 [(I 0),(slice none 0 0)] 26 (fun b5 H6=>B7 P b1 b3 b5 H6)))
def code:Code:=(.seq (R 0 2) (.seq (R 1 6) (.seq (.seq (R 2 28) (.block 0 (.loop (.seq (.seq (R 3 464) (.cond (.tmp 15) .skip (.exit 0))) (.seq (.block 1 (.region 5 ⟨o4⟩ true)) (R 4 467)))))) (.seq (R 6 30) .ret))))
theorem body:Tryz.f118.body=some code:=by kernel_rfl
theorem main P:Z 47 k3 (B8 P) code (ret P):=
  (r_seq (b (E k2 (B7 P))) (r_seq (b (E k0 (B6 P))) (r_seq (r_seq (b (E k1 (L2 P))) (r_block (rL (l2 P) (fun N2=>(r_seq (r_seq (b (cnd 15 (E k1 (B4 P N2)) (E k0 (B1 P)))) (r_cond rfl r_skip (r_exit (fun _ _ h=>h)))) (r_seq (r_block (rD T0_ok mixed [(0,false),(1,false),(2,false),(3,false),(4,false),(5,false),(6,false),(7,false),(8,false),(9,false),(10,false),(11,false),(12,false),(13,false),(14,false),(15,false),(16,false),(17,false),(18,false),(19,false),(20,false),(21,false),(22,false)] (by kernel_rfl) (q4 P N2))) (b (E k1 N2)))))))) (r_seq (b (ret P)) r_ret))))
theorem ac (P:PT) (x0a:Int) (x0b:Value) (x1a:Int) (x1b:Value) (H:AHeap) (h:B8 P x0a x0b x1a x1b H):A 118 [(agg ⟨[(I x0a),x0b]⟩),(agg ⟨[(I x1a),x1b]⟩)] H P:=
  r_fn T0_ok (c:=code) (n:=47) Tryz.func118 body (by kernel_rfl) (main P) (En_mk (x0a,x0b,x1a,x1b,()) (by kernel_rfl) ⟨by kernel_rfl,by kernel_rfl,trivial⟩ h)

end F118
namespace F119
abbrev E:=En 149
def O (k:Nat):=ob Tryz.f119 (pth k)
abbrev R (i k:Nat):Code:=.region i ⟨O k⟩ false
def ret (P:PT):EP:=retE T0 149 Tryz.f119 P
abbrev k0:Sk:=[(7,.v)]
def B1 (P:PT):Y k0:=fun x7 H=>
  P x7 H
abbrev k1:Sk:=[(0,.v),(2,J),(4,.x),(7,.v),(8,J)]
def o3:=O 467
def B3 (P:PT) (N2:Y k1):Y k1:=fun x0 x2 x4 x7 x8 H=>
  N2 x0 x2 x4 x7 (i64.wrap (x8-1)) H
abbrev k2:Sk:=[(0,.v),(2,J),(4,.x),(7,.v),(8,J),(9,J),(10,J),(12,.v),(13,J),(14,J)]
abbrev k3:Sk:=[(0,.v),(2,J),(4,.x),(7,.v),(8,J),(9,J),(10,J),(12,.v),(13,J),(14,J),(15,.v),(16,J)]
def B6 (P:PT) (N2:Y k1) (N4:Y k2) (N5:Y k3):Y k3:=fun x0 x2 x4 x7 x8 x9 x10 x12 x13 x14 x15 x16 H=>
  N5 x0 x2 x4 x7 x8 x9 x10 x12 x13 x14 x15 (i64.wrap (x16+1)) H
abbrev k4:Sk:=[(0,.v),(2,J),(4,.x),(7,.v),(8,J),(9,J),(10,J),(12,.v),(13,J),(17,J)]
def o7:=O 3913231514
def B7 (P:PT) (N2:Y k1) (N4:Y k2) (N5:Y k3):Y k4:=fun x0 x2 x4 x7 x8 x9 x10 x12 x13 x17 H=>
  N4 x0 x2 x4 x7 x8 x9 x10 x12 x13 x17 H
abbrev k5:Sk:=[(0,.v),(2,J),(4,.x),(7,.v),(8,J),(9,J),(10,J),(12,.v),(13,J),(15,.v),(16,J),(17,J)]
def o8:=O 7826463026
def B8 (P:PT) (N2:Y k1) (N4:Y k2) (N5:Y k3):Y k5:=fun x0 x2 x4 x7 x8 x9 x10 x12 x13 x15 x16 x17 H=>
  idxK x15 x16 1 (fun b1 o2=>li H b1 o2 (fun v3=>idxK x15 x16 1 (fun b4 o5=>li H b4 o5 (fun v6=>idxK x7 v6 1 (fun b7 o8=>li H b7 o8 (fun v9=>nzK x2 (idxK x7 v3 1 (fun b10 o11=>stK H b10 o11 [(I (Int.tmod (i64.wrap (v9+x13)) x2))] (fun H12=>B7 P N2 N4 N5 x0 x2 x4 x7 x8 x9 x10 x12 x13 x17 H12)))))))))
theorem q8 (P:PT) (N2:Y k1) (N4:Y k2) (N5:Y k3):QD Tryz.prog T0 149 o8 [(0,false),(1,false),(2,false),(3,false),(4,false),(5,false),(6,false),(7,false),(8,false),(9,false),(10,false),(11,false),(12,false),(13,false),(14,false),(15,false),(16,false),(17,false)] (En 149 k4 (B7 P N2 N4 N5)) k5 (B8 P N2 N4 N5):=fun _ _ _ _ _ _ _ _ _ _ _ _ _ _  => by kernel_rfl
def o9:=O 7826463027
def B9 (P:PT) (N2:Y k1) (N4:Y k2) (N5:Y k3):Y k5:=fun x0 x2 x4 x7 x8 x9 x10 x12 x13 x15 x16 x17 H=>
  idxK x15 x16 1 (fun b1 o2=>li H b1 o2 (fun v3=>idxK x15 x16 1 (fun b4 o5=>li H b4 o5 (fun v6=>idxK x7 v6 1 (fun b7 o8=>li H b7 o8 (fun v9=>nzK x2 (idxK x7 v3 1 (fun b10 o11=>stK H b10 o11 [(I (Int.tmod (i64.wrap ((i64.wrap (v9+x2))-x13)) x2))] (fun H12=>B7 P N2 N4 N5 x0 x2 x4 x7 x8 x9 x10 x12 x13 x17 H12)))))))))
theorem q9 (P:PT) (N2:Y k1) (N4:Y k2) (N5:Y k3):QD Tryz.prog T0 149 o9 [(0,false),(1,false),(2,false),(3,false),(4,false),(5,false),(6,false),(7,false),(8,false),(9,false),(10,false),(11,false),(12,false),(13,false),(14,false),(15,false),(16,false),(17,false),(18,false),(19,false)] (En 149 k4 (B7 P N2 N4 N5)) k5 (B9 P N2 N4 N5):=fun _ _ _ _ _ _ _ _ _ _ _ _ _ _  => by kernel_rfl
abbrev k6:Sk:=[(0,.v),(2,J),(4,.x),(7,.v),(8,J),(9,J),(10,J),(12,.v),(13,J),(14,J),(15,.v),(16,J),(17,J)]
def B10 (P:PT) (N2:Y k1) (N4:Y k2) (N5:Y k3):Y k6:=fun x0 x2 x4 x7 x8 x9 x10 x12 x13 x14 x15 x16 x17 H=>
  pif (decide ((x14:Int)<x17)) (B8 P N2 N4 N5 x0 x2 x4 x7 x8 x9 x10 x12 x13 x15 x16 x17 H) (B9 P N2 N4 N5 x0 x2 x4 x7 x8 x9 x10 x12 x13 x15 x16 x17 H)
def o11:=O 489153938
def B11 (P:PT) (N2:Y k1) (N4:Y k2) (N5:Y k3):Y k6:=fun x0 x2 x4 x7 x8 x9 x10 x12 x13 x14 x15 x16 x17 H=>
  idxK x15 x16 1 (fun b1 o2=>li H b1 o2 (fun v3=>pif ((v3:Int) != x9) (idxK x12 x17 1 (fun b4 o5=>li H b4 o5 (fun v6=>idxK x12 x14 1 (fun b7 o8=>li H b7 o8 (fun v9=>pif ((v6:Int)==(i64.wrap (v9-1))) (B10 P N2 N4 N5 x0 x2 x4 x7 x8 x9 x10 x12 x13 x14 x15 x16 x17 H) (B6 P N2 N4 N5 x0 x2 x4 x7 x8 x9 x10 x12 x13 x14 x15 x16 H)))))) (B6 P N2 N4 N5 x0 x2 x4 x7 x8 x9 x10 x12 x13 x14 x15 x16 H)))
theorem q11 (P:PT) (N2:Y k1) (N4:Y k2) (N5:Y k3):QD Tryz.prog T0 149 o11 [(0,false),(1,false),(2,false),(3,false),(4,false),(5,false),(6,false),(7,false),(8,false),(9,false),(10,false),(11,false),(12,false),(13,false),(14,false),(15,false),(16,false),(17,false)] (cnd 107 (En 149 k6 (B10 P N2 N4 N5)) (En 149 k3 (B6 P N2 N4 N5))) k6 (B11 P N2 N4 N5):=fun _ _ _ _ _ _ _ _ _ _ _ _ _ _ _  => by kernel_rfl
def o12:=O 244576968
def B12 (P:PT) (N2:Y k1) (N4:Y k2) (N5:Y k3):Y k3:=fun x0 x2 x4 x7 x8 x9 x10 x12 x13 x14 x15 x16 H=>
  li H x4 0 (fun v1=>ld1 H x4 1 (fun v2=>idxK x15 x16 1 (fun b3 o4=>li H b3 o4 (fun v5=>A 170 [(agg ⟨[(I v1),v2]⟩),(I v5),(I x14)] H (fun v6 H7=>asI .i64 v6 (fun v8=>B11 P N2 N4 N5 x0 x2 x4 x7 x8 x9 x10 x12 x13 x14 x15 x16 v8 H7))))))
theorem q12 (P:PT) (N2:Y k1) (N4:Y k2) (N5:Y k3):QD Tryz.prog T0 149 o12 [(0,false),(1,false),(2,false),(3,false),(4,false),(5,false),(6,false),(7,false)] (En 149 k6 (B11 P N2 N4 N5)) k3 (B12 P N2 N4 N5):=fun _ _ _ _ _ _ _ _ _ _ _ _ _ _  => by kernel_rfl
def B13 (P:PT) (N2:Y k1) (N4:Y k2) (N5:Y k3):Y k3:=fun x0 x2 x4 x7 x8 x9 x10 x12 x13 x14 x15 x16 H=>
  lenK x15 (fun n1=>pif (decide ((x16:Int)<(n1:Int))) (B12 P N2 N4 N5 x0 x2 x4 x7 x8 x9 x10 x12 x13 x14 x15 x16 H) (N4 x0 x2 x4 x7 x8 x9 x10 x12 x13 x14 H))
def L5 (P:PT) (N2:Y k1) (N4:Y k2):Y k3:=fun x0 x2 x4 x7 x8 x9 x10 x12 x13 x14 x15 x16 H=>
  ∃ (I:Y k3) (μ:NTy k3 (AHeap→Nat)),I x0 x2 x4 x7 x8 x9 x10 x12 x13 x14 x15 x16 H∧∀ y0 y2 y4 y7 y8 y9 y10 y12 y13 y14 y15 y16 G,I y0 y2 y4 y7 y8 y9 y10 y12 y13 y14 y15 y16 G→B13 P N2 N4 (fun z0 z2 z4 z7 z8 z9 z10 z12 z13 z14 z15 z16 G'=>I z0 z2 z4 z7 z8 z9 z10 z12 z13 z14 z15 z16 G'∧μ z0 z2 z4 z7 z8 z9 z10 z12 z13 z14 z15 z16 G'<μ y0 y2 y4 y7 y8 y9 y10 y12 y13 y14 y15 y16 G) y0 y2 y4 y7 y8 y9 y10 y12 y13 y14 y15 y16 G
theorem l5 P N2 N4:LQ k3 (L5 P N2 N4) (B13 P N2 N4):=fun ⟨_,_,_,_,_,_,_,_,_,_,_,_,_⟩ _ ⟨I,μ,h0,hI⟩=>⟨apT _ I,apT _ μ,h0,fun ⟨_,_,_,_,_,_,_,_,_,_,_,_,_⟩ _ h=>hI _ _ _ _ _ _ _ _ _ _ _ _ _  h⟩
abbrev k7:Sk:=[(0,.v),(2,J),(4,.x),(7,.v),(8,J),(9,J),(10,J),(12,.v),(13,J),(14,J),(15,.v)]
def B14 (P:PT) (N2:Y k1) (N4:Y k2):Y k7:=fun x0 x2 x4 x7 x8 x9 x10 x12 x13 x14 x15 H=>
  L5 P N2 N4 x0 x2 x4 x7 x8 x9 x10 x12 x13 x14 x15 0 H
def B15 (P:PT) (N2:Y k1) (N4:Y k2):Y k2:=fun x0 x2 x4 x7 x8 x9 x10 x12 x13 x14 H=>
  li H x4 0 (fun v1=>ld1 H x4 1 (fun v2=>A 82 [(agg ⟨[(I v1),v2]⟩),(I x14)] H (fun v3 H4=>B14 P N2 N4 x0 x2 x4 x7 x8 x9 x10 x12 x13 x14 v3 H4)))
def B16 (P:PT) (N2:Y k1) (N4:Y k2):Y k2:=fun x0 x2 x4 x7 x8 x9 x10 x12 x13 x14 H=>
  pif ((x14:Int) != x10) (B15 P N2 N4 x0 x2 x4 x7 x8 x9 x10 x12 x13 x14 H) (B3 P N2 x0 x2 x4 x7 x8 H)
def L4 (P:PT) (N2:Y k1):Y k2:=fun x0 x2 x4 x7 x8 x9 x10 x12 x13 x14 H=>
  ∃ (I:Y k2) (μ:NTy k2 (AHeap→Nat)),I x0 x2 x4 x7 x8 x9 x10 x12 x13 x14 H∧∀ y0 y2 y4 y7 y8 y9 y10 y12 y13 y14 G,I y0 y2 y4 y7 y8 y9 y10 y12 y13 y14 G→B16 P N2 (fun z0 z2 z4 z7 z8 z9 z10 z12 z13 z14 G'=>I z0 z2 z4 z7 z8 z9 z10 z12 z13 z14 G'∧μ z0 z2 z4 z7 z8 z9 z10 z12 z13 z14 G'<μ y0 y2 y4 y7 y8 y9 y10 y12 y13 y14 G) y0 y2 y4 y7 y8 y9 y10 y12 y13 y14 G
theorem l4 P N2:LQ k2 (L4 P N2) (B16 P N2):=fun ⟨_,_,_,_,_,_,_,_,_,_,_⟩ _ ⟨I,μ,h0,hI⟩=>⟨apT _ I,apT _ μ,h0,fun ⟨_,_,_,_,_,_,_,_,_,_,_⟩ _ h=>hI _ _ _ _ _ _ _ _ _ _ _  h⟩
abbrev k8:Sk:=[(0,.v),(2,J),(4,.x),(7,.v),(8,J),(9,J),(10,J),(11,J),(12,.v),(13,J)]
def B17 (P:PT) (N2:Y k1):Y k8:=fun x0 x2 x4 x7 x8 x9 x10 x11 x12 x13 H=>
  L4 P N2 x0 x2 x4 x7 x8 x9 x10 x12 x13 x11 H
def B18 (P:PT) (N2:Y k1):Y k8:=fun x0 x2 x4 x7 x8 x9 x10 x11 x12 x13 H=>
  idxK x7 x9 1 (fun b1 o2=>li H b1 o2 (fun v3=>nzK x2 (idxK x7 x9 1 (fun b4 o5=>stK H b4 o5 [(I (Int.tmod (i64.wrap (v3+x13)) x2))] (fun H6=>B17 P N2 x0 x2 x4 x7 x8 x9 x10 x11 x12 x13 H6)))))
def B19 (P:PT) (N2:Y k1):Y k8:=fun x0 x2 x4 x7 x8 x9 x10 x11 x12 x13 H=>
  idxK x12 x11 1 (fun b1 o2=>li H b1 o2 (fun v3=>pif (decide ((v3:Int)<0)) (B3 P N2 x0 x2 x4 x7 x8 H) (B18 P N2 x0 x2 x4 x7 x8 x9 x10 x11 x12 x13 H)))
abbrev k9:Sk:=[(0,.v),(2,J),(4,.x),(7,.v),(8,J),(9,J),(10,J),(11,J)]
def B20 (P:PT) (N2:Y k1):Y k9:=fun x0 x2 x4 x7 x8 x9 x10 x11 H=>
  li H x4 0 (fun v1=>ld1 H x4 1 (fun v2=>A 169 [(agg ⟨[(I v1),v2]⟩),(I x10),(I x9)] H (fun v3 H4=>A 60 [x0,(I (i64.wrap (x2-1)))] H4 (fun v6 H7=>asI .i64 v6 (fun v8=>B19 P N2 x0 x2 x4 x7 x8 x9 x10 x11 v3 (i64.wrap (1+v8)) H7)))))
abbrev k10:Sk:=[(0,.v),(2,J),(4,.x),(7,.v),(8,J),(9,J)]
def o21:=O 3730
def B21 (P:PT) (N2:Y k1):Y k10:=fun x0 x2 x4 x7 x8 x9 H=>
  ld1 H x4 1 (fun v1=>idxK v1 x9 2 (fun b2 o3=>li H b2 o3 (fun v4=>ld1 H x4 1 (fun v5=>idxK v5 x9 2 (fun b6 o7=>li H b6 (o7+1) (fun v8=>B20 P N2 x0 x2 x4 x7 x8 x9 v4 v8 H))))))
theorem q21 (P:PT) (N2:Y k1):QD Tryz.prog T0 149 o21 [(0,false),(1,false),(2,false),(3,false),(4,false),(5,false),(6,false),(7,false),(8,false),(9,false),(10,false),(11,false),(12,false),(13,false)] (En 149 k9 (B20 P N2)) k10 (B21 P N2):=fun _ _ _ _ _ _ _ _  => by kernel_rfl
def B22 (P:PT) (N2:Y k1):Y k1:=fun x0 x2 x4 x7 x8 H=>
  ld1 H x4 1 (fun v1=>lenK v1 (fun n2=>A 60 [x0,(I (n2:Int))] H (fun v3 H4=>asI .i64 v3 (fun v5=>B21 P N2 x0 x2 x4 x7 x8 v5 H4))))
def B23 (P:PT) (N2:Y k1):Y k1:=fun x0 x2 x4 x7 x8 H=>
  pif (decide ((x8:Int)>0)) (B22 P N2 x0 x2 x4 x7 x8 H) (B1 P x7 H)
def L2 (P:PT):Y k1:=fun x0 x2 x4 x7 x8 H=>
  ∃ (I:Y k1) (μ:NTy k1 (AHeap→Nat)),I x0 x2 x4 x7 x8 H∧∀ y0 y2 y4 y7 y8 G,I y0 y2 y4 y7 y8 G→B23 P (fun z0 z2 z4 z7 z8 G'=>I z0 z2 z4 z7 z8 G'∧μ z0 z2 z4 z7 z8 G'<μ y0 y2 y4 y7 y8 G) y0 y2 y4 y7 y8 G
theorem l2 P:LQ k1 (L2 P) (B23 P):=fun ⟨_,_,_,_,_,_⟩ _ ⟨I,μ,h0,hI⟩=>⟨apT _ I,apT _ μ,h0,fun ⟨_,_,_,_,_,_⟩ _ h=>hI _ _ _ _ _ _  h⟩
abbrev k11:Sk:=[(0,.v),(2,J),(4,.x),(7,.v)]
def B24 (P:PT):Y k11:=fun x0 x2 x4 x7 H=>
  A 60 [x0,(I 6)] H (fun v1 H2=>asI .i64 v1 (fun v3=>L2 P x0 x2 x4 x7 v3 H2))
abbrev k12:Sk:=[(0,.v),(2,J),(4,.x)]
def B25 (P:PT):Y k12:=fun x0 x2 x4 H=>
  ld1 H x4 1 (fun v1=>lenK v1 (fun n2=>mkR H 8 2 [(I 0)] (n2:Int) (n2:Int) (fun v4 H3=>B24 P x0 x2 x4 v4 H3)))
abbrev k13:Sk:=[(0,.v),(1,.g [.i,.v]),(2,J)]
def B26 (P:PT):Y k13:=fun x0 x1a x1b x2 H=>
  newK H [(I x1a),x1b] 26 (fun b1 H2=>B25 P x0 x2 b1 H2)
def code:Code:=(.seq (R 0 2) (.seq (R 1 6) (.seq (.seq (R 2 28) (.block 0 (.loop (.seq (.seq (R 3 464) (.cond (.tmp 25) .skip (.exit 0))) (.seq (.block 1 (.seq (R 5 1864) (.seq (.region 6 ⟨o21⟩ true) (.seq (R 7 7462) (.seq (.seq (R 8 29852) (.cond (.tmp 58) (.exit 1) .skip)) (.seq (R 9 29854) (.seq (R 10 59710) (.block 2 (.loop (.seq (.seq (R 11 955376) (.cond (.tmp 73) .skip (.exit 2))) (.block 3 (.seq (R 12 1910756) (.seq (R 13 3821514) (.block 4 (.loop (.seq (.seq (R 14 61144240) (.cond (.tmp 80) .skip (.exit 4))) (.seq (.block 5 (.seq (.region 16 ⟨o12⟩ true) (.seq (.region 17 ⟨o11⟩ true) (.cond (.tmp 107) (.seq (.seq (R 18 3913231512) (.cond (.tmp 110) (.region 19 ⟨o8⟩ true) (.region 20 ⟨o9⟩ true))) (.seq (R 21 3913231514) (.exit 4))) .skip)))) (R 15 61144243)))))))))))))))))) (R 4 467)))))) (.seq (R 22 30) .ret))))
theorem body:Tryz.f119.body=some code:=by kernel_rfl
theorem main P:Z 149 k13 (B26 P) code (ret P):=
  (r_seq (b (E k12 (B25 P))) (r_seq (b (E k11 (B24 P))) (r_seq (r_seq (b (E k1 (L2 P))) (r_block (rL (l2 P) (fun N2=>(r_seq (r_seq (b (cnd 25 (E k1 (B22 P N2)) (E k0 (B1 P)))) (r_cond rfl r_skip (r_exit (fun _ _ h=>h)))) (r_seq (r_block (r_seq (b (E k10 (B21 P N2))) (r_seq (rD T0_ok mixed [(0,false),(1,false),(2,false),(3,false),(4,false),(5,false),(6,false),(7,false),(8,false),(9,false),(10,false),(11,false),(12,false),(13,false)] (by kernel_rfl) (q21 P N2)) (r_seq (b (E k8 (B19 P N2))) (r_seq (r_seq (b (cnd 58 (E k1 (B3 P N2)) (E k8 (B18 P N2)))) (r_cond rfl (r_exit (fun _ _ h=>h)) r_skip)) (r_seq (b (E k8 (B17 P N2))) (r_seq (b (E k2 (L4 P N2))) (r_block (rL (l4 P N2) (fun N4=>(r_seq (r_seq (b (cnd 73 (E k2 (B15 P N2 N4)) (E k1 (B3 P N2)))) (r_cond rfl r_skip (r_exit (fun _ _ h=>h)))) (r_block (r_seq (b (E k7 (B14 P N2 N4))) (r_seq (b (E k3 (L5 P N2 N4))) (r_block (rL (l5 P N2 N4) (fun N5=>(r_seq (r_seq (b (cnd 80 (E k3 (B12 P N2 N4 N5)) (E k2 N4))) (r_cond rfl r_skip (r_exit (fun _ _ h=>h)))) (r_seq (r_block (r_seq (rD T0_ok mixed [(0,false),(1,false),(2,false),(3,false),(4,false),(5,false),(6,false),(7,false)] (by kernel_rfl) (q12 P N2 N4 N5)) (r_seq (rD T0_ok mixed [(0,false),(1,false),(2,false),(3,false),(4,false),(5,false),(6,false),(7,false),(8,false),(9,false),(10,false),(11,false),(12,false),(13,false),(14,false),(15,false),(16,false),(17,false)] (by kernel_rfl) (q11 P N2 N4 N5)) (r_cond rfl (r_seq (r_seq (b (cnd 110 (E k5 (B8 P N2 N4 N5)) (E k5 (B9 P N2 N4 N5)))) (r_cond rfl (rD T0_ok mixed [(0,false),(1,false),(2,false),(3,false),(4,false),(5,false),(6,false),(7,false),(8,false),(9,false),(10,false),(11,false),(12,false),(13,false),(14,false),(15,false),(16,false),(17,false)] (by kernel_rfl) (q8 P N2 N4 N5)) (rD T0_ok mixed [(0,false),(1,false),(2,false),(3,false),(4,false),(5,false),(6,false),(7,false),(8,false),(9,false),(10,false),(11,false),(12,false),(13,false),(14,false),(15,false),(16,false),(17,false),(18,false),(19,false)] (by kernel_rfl) (q9 P N2 N4 N5)))) (r_seq (b (E k2 N4)) (r_exit (fun _ _ h=>h)))) r_skip)))) (b (E k3 N5))))))))))))))))))))) (b (E k1 N2)))))))) (r_seq (b (ret P)) r_ret))))
theorem ac (P:PT) (x0:Value) (x1a:Int) (x1b:Value) (x2:Int) (H:AHeap) (h:B26 P x0 x1a x1b x2 H):A 119 [x0,(agg ⟨[(I x1a),x1b]⟩),(I x2)] H P:=
  r_fn T0_ok (c:=code) (n:=149) Tryz.func119 body (by kernel_rfl) (main P) (En_mk (x0,x1a,x1b,x2,()) (by kernel_rfl) ⟨by kernel_rfl,by kernel_rfl,by kernel_rfl,trivial⟩ h)

end F119
namespace F120
abbrev E:=En 8
def O (k:Nat):=ob Tryz.f120 (pth k)
abbrev R (i k:Nat):Code:=.region i ⟨O k⟩ false
def ret (P:PT):EP:=retE T0 8 Tryz.f120 P
abbrev k0:Sk:=[(1,.x)]
def B1 (P:PT):Y k0:=fun x1 H=>
  ld1 H x1 1 (fun v1=>lenK v1 (fun n2=>((0:Int)≤(n2:Int))∧(P (int .u64 (u64.wrap ((u64.wrap (1*2^(min (Int.toNat (n2:Int)) 64)))-1))) H)))
abbrev k1:Sk:=[(0,.g [.i,.v])]
def B2 (P:PT):Y k1:=fun x0a x0b H=>
  newK H [(I x0a),x0b] 26 (fun b1 H2=>B1 P b1 H2)
def code:Code:=(.seq (R 0 2) (.seq (R 1 6) .ret))
theorem body:Tryz.f120.body=some code:=by kernel_rfl
theorem main P:Z 8 k1 (B2 P) code (ret P):=
  (r_seq (b (E k0 (B1 P))) (r_seq (b (ret P)) r_ret))
theorem ac (P:PT) (x0a:Int) (x0b:Value) (H:AHeap) (h:B2 P x0a x0b H):A 120 [(agg ⟨[(I x0a),x0b]⟩)] H P:=
  r_fn T0_ok (c:=code) (n:=8) Tryz.func120 body (by kernel_rfl) (main P) (En_mk (x0a,x0b,()) (by kernel_rfl) ⟨by kernel_rfl,trivial⟩ h)

end F120
namespace F121
abbrev E:=En 19
def O (k:Nat):=ob Tryz.f121 (pth k)
abbrev R (i k:Nat):Code:=.region i ⟨O k⟩ false
def ret (P:PT):EP:=retE T0 19 Tryz.f121 P
abbrev k0:Sk:=[]
def B1 (P:PT):Y k0:=fun H=>
  P (I (-1)) H
abbrev k1:Sk:=[(0,.v),(1,.v),(7,J),(8,J)]
def B3 (P:PT) (N2:Y k1):Y k1:=fun x0 x1 x7 x8 H=>
  N2 x0 x1 x7 (i64.wrap (x8+1)) H
abbrev k2:Sk:=[(5,J)]
def B4 (P:PT) (N2:Y k1):Y k2:=fun x5 H=>
  P (I x5) H
abbrev k3:Sk:=[(0,.v),(1,.v),(5,J),(7,J),(8,J)]
def B5 (P:PT) (N2:Y k1):Y k3:=fun x0 x1 x5 x7 x8 H=>
  idxK x0 x5 1 (fun b1 o2=>ldI .u64 H b1 o2 (fun v3=>callV Tryz.prog T0 x1 [(int .u64 v3)] H (fun v4 H5=>asB v4 (fun v6=>pif v6 (B4 P N2 x5 H5) (B3 P N2 x0 x1 x7 x8 H5)))))
def B6 (P:PT) (N2:Y k1):Y k1:=fun x0 x1 x7 x8 H=>
  B5 P N2 x0 x1 x8 x7 x8 H
def B7 (P:PT) (N2:Y k1):Y k1:=fun x0 x1 x7 x8 H=>
  pif (decide ((x8:Int)<x7)) (B6 P N2 x0 x1 x7 x8 H) (B1 P H)
def L2 (P:PT):Y k1:=fun x0 x1 x7 x8 H=>
  ∃ (I:Y k1) (μ:NTy k1 (AHeap→Nat)),I x0 x1 x7 x8 H∧∀ y0 y1 y7 y8 G,I y0 y1 y7 y8 G→B7 P (fun z0 z1 z7 z8 G'=>I z0 z1 z7 z8 G'∧μ z0 z1 z7 z8 G'<μ y0 y1 y7 y8 G) y0 y1 y7 y8 G
theorem l2 P:LQ k1 (L2 P) (B7 P):=fun ⟨_,_,_,_,_⟩ _ ⟨I,μ,h0,hI⟩=>⟨apT _ I,apT _ μ,h0,fun ⟨_,_,_,_,_⟩ _ h=>hI _ _ _ _ _  h⟩
abbrev k4:Sk:=[(0,.v),(1,.v)]
def B8 (P:PT):Y k4:=fun x0 x1 H=>
  lenK x0 (fun n1=>L2 P x0 x1 (n1:Int) 0 H)
def B9 (P:PT):Y k4:=fun x0 x1 H=>
  B8 P x0 x1 H
def code:Code:=(.seq (R 0 2) (.seq (.seq (R 1 12) (.block 0 (.loop (.seq (R 2 104) (.seq (.cond (.tmp 9) .skip (.exit 0)) (.seq (.block 1 (.seq (R 3 1688) (.seq (R 4 3378) (.cond (.tmp 16) (.seq (R 5 13516) .ret) .skip)))) (R 6 423))))))) (.seq (R 7 14) .ret)))
theorem body:Tryz.f121.body=some code:=by kernel_rfl
theorem main P:Z 19 k4 (B9 P) code (ret P):=
  (r_seq (b (E k4 (B8 P))) (r_seq (r_seq (b (E k1 (L2 P))) (r_block (rL (l2 P) (fun N2=>(r_seq (b (cnd 9 (E k1 (B6 P N2)) (E k0 (B1 P)))) (r_seq (r_cond rfl r_skip (r_exit (fun _ _ h=>h))) (r_seq (r_block (r_seq (b (E k3 (B5 P N2))) (r_seq (b (cnd 16 (E k2 (B4 P N2)) (E k1 (B3 P N2)))) (r_cond rfl (r_seq (b (ret P)) r_ret) r_skip)))) (b (E k1 N2))))))))) (r_seq (b (ret P)) r_ret)))
theorem ac (P:PT) (x0 x1:Value) (H:AHeap) (h:B9 P x0 x1 H):A 121 [x0,x1] H P:=
  r_fn T0_ok (c:=code) (n:=19) Tryz.func121 body (by kernel_rfl) (main P) (En_mk (x0,x1,()) (by kernel_rfl) ⟨by kernel_rfl,by kernel_rfl,trivial⟩ h)

end F121
namespace F122
abbrev E:=En 148
def O (k:Nat):=ob Tryz.f122 (pth k)
abbrev R (i k:Nat):Code:=.region i ⟨O k⟩ false
def ret (P:PT):EP:=retE T0 148 Tryz.f122 P
abbrev k0:Sk:=[(0,.v),(1,J),(2,J),(3,J),(4,.v),(10,.b),(11,.b)]
abbrev k1:Sk:=[(0,.v),(2,J),(3,J),(4,.v),(10,.b),(11,.b),(16,J)]
def o2:=O 3735547
def B2 (P:PT) (N1:Y k0):Y k1:=fun x0 x2 x3 x4 x10 x11 x16 H=>
  N1 x0 (i64.wrap (x16+1)) x2 x3 x4 x10 x11 H
abbrev k2:Sk:=[(0,.v),(1,J),(2,J),(3,J),(4,.v),(10,.b),(11,.b),(16,J)]
def B3 (P:PT) (N1:Y k0):Y k2:=fun x0 x1 x2 x3 x4 x10 x11 x16 H=>
  A 122 [x0,(I x1),(I x16),(I x3),x4] H (fun v1 H2=>asTup v1 (fun l3=>B2 P N1 x0 x2 x3 x4 x10 x11 x16 H2))
abbrev k3:Sk:=[(0,.v),(1,J),(2,J),(3,J),(4,.v),(11,.b),(16,J),(18,J),(20,J)]
def B4 (P:PT) (N1:Y k0):Y k3:=fun x0 x1 x2 x3 x4 x11 x16 x18 x20 H=>
  B3 P N1 x0 x1 x2 x3 x4 (decide ((x18:Int)≥x20)) x11 x16 H
abbrev k4:Sk:=[(0,.v),(1,J),(3,J),(4,.v),(10,.b),(11,.b),(16,J)]
def o5:=O 3735551
def B5 (P:PT) (N1:Y k0):Y k4:=fun x0 x1 x3 x4 x10 x11 x16 H=>
  N1 x0 x1 x16 x3 x4 x10 x11 H
def B6 (P:PT) (N1:Y k0):Y k2:=fun x0 x1 x2 x3 x4 x10 x11 x16 H=>
  A 122 [x0,(I (i64.wrap (x16+1))),(I x2),(I x3),x4] H (fun v1 H2=>asTup v1 (fun l3=>B5 P N1 x0 x1 x3 x4 x10 x11 x16 H2))
abbrev k5:Sk:=[(0,.v),(1,J),(2,J),(3,J),(4,.v),(11,.b),(16,J),(19,J),(20,J)]
def B7 (P:PT) (N1:Y k0):Y k5:=fun x0 x1 x2 x3 x4 x11 x16 x19 x20 H=>
  B6 P N1 x0 x1 x2 x3 x4 (decide ((x19:Int)≥x20)) x11 x16 H
abbrev k6:Sk:=[(0,.v),(1,J),(2,J),(3,J),(4,.v),(11,.b),(16,J),(18,J),(19,J),(20,J)]
def B8 (P:PT) (N1:Y k0):Y k6:=fun x0 x1 x2 x3 x4 x11 x16 x18 x19 x20 H=>
  pif (decide ((x18:Int)<x19)) (B4 P N1 x0 x1 x2 x3 x4 x11 x16 x18 x20 H) (B7 P N1 x0 x1 x2 x3 x4 x11 x16 x19 x20 H)
abbrev k7:Sk:=[(0,.v),(1,J),(2,J),(3,J),(4,.v),(11,.b),(12,J),(16,J),(18,J),(19,J)]
def B9 (P:PT) (N1:Y k0):Y k7:=fun x0 x1 x2 x3 x4 x11 x12 x16 x18 x19 H=>
  B8 P N1 x0 x1 x2 x3 x4 x11 x16 x18 x19 (i64.wrap (Int.tdiv x12 8)) H
abbrev k8:Sk:=[(0,.v),(1,J),(2,J),(3,J),(4,.v),(11,.b),(12,J),(16,J)]
def B10 (P:PT) (N1:Y k0):Y k8:=fun x0 x1 x2 x3 x4 x11 x12 x16 H=>
  B9 P N1 x0 x1 x2 x3 x4 x11 x12 x16 (i64.wrap (x16-x1)) (i64.wrap (x2-x16)) H
abbrev k9:Sk:=[(0,.v),(1,J),(2,J),(3,J),(4,.v),(12,J),(16,J),(17,.b)]
def B11 (P:PT) (N1:Y k0):Y k9:=fun x0 x1 x2 x3 x4 x12 x16 x17 H=>
  B10 P N1 x0 x1 x2 x3 x4 x17 x12 x16 H
abbrev k10:Sk:=[(0,.v),(1,J),(2,J),(3,J),(4,.v),(12,J),(13,J)]
def B12 (P:PT) (N1:Y k0):Y k10:=fun x0 x1 x2 x3 x4 x12 x13 H=>
  A 178 [x0,(I x1),(I x2),(I x13),x4] H (fun v1 H2=>tup2 v1 (fun v3 v4=>asI .i64 v3 (fun v5=>asB v4 (fun v6=>B11 P N1 x0 x1 x2 x3 x4 x12 v5 v6 H2))))
abbrev k11:Sk:=[(0,.v),(2,J),(3,J),(4,.v),(10,.b),(11,.b),(15,J)]
def B13 (P:PT) (N1:Y k0):Y k11:=fun x0 x2 x3 x4 x10 x11 x15 H=>
  N1 x0 x15 x2 x3 x4 x10 x11 H
abbrev k12:Sk:=[(0,.v),(1,J),(2,J),(3,J),(4,.v),(10,.b),(11,.b),(13,J)]
def B14 (P:PT) (N1:Y k0):Y k12:=fun x0 x1 x2 x3 x4 x10 x11 x13 H=>
  A 177 [x0,(I x1),(I x2),(I x13),x4] H (fun v1 H2=>asI .i64 v1 (fun v3=>B13 P N1 x0 x2 x3 x4 x10 x11 v3 H2))
abbrev k13:Sk:=[(0,.v),(1,J),(2,J),(3,J),(4,.v),(10,.b),(11,.b),(12,J),(13,J)]
def o15:=O 29180
def B15 (P:PT) (N1:Y k0):Y k13:=fun x0 x1 x2 x3 x4 x10 x11 x12 x13 H=>
  pif (decide ((x1:Int)>0)) (idxK x0 (i64.wrap (x1-1)) 1 (fun b1 o2=>ldI .u64 H b1 o2 (fun v3=>idxK x0 x13 1 (fun b4 o5=>ldI .u64 H b4 o5 (fun v6=>callV Tryz.prog T0 x4 [(int .u64 v3),(int .u64 v6)] H (fun v7 H8=>asI .i64 v7 (fun v9=>pif (!(decide ((v9:Int)<0))) (B14 P N1 x0 x1 x2 x3 x4 x10 x11 x13 H8) (B12 P N1 x0 x1 x2 x3 x4 x12 x13 H8)))))))) (B12 P N1 x0 x1 x2 x3 x4 x12 x13 H)
theorem q15 (P:PT) (N1:Y k0):QD Tryz.prog T0 148 o15 [(0,false),(1,false),(2,false),(3,false),(4,false),(5,false),(6,false),(7,false),(8,false),(9,false),(10,false),(11,false),(12,false),(13,false),(14,false),(15,false),(16,false)] (cnd 97 (En 148 k12 (B14 P N1)) (En 148 k10 (B12 P N1))) k13 (B15 P N1):=fun _ _ _ _ _ _ _ _ _ _ _  => by kernel_rfl
def B16 (P:PT) (N1:Y k0):Y k13:=fun x0 x1 x2 x3 x4 x10 x11 x12 x13 H=>
  A 176 [x0,(I x1),(I x2),x4] H (fun v1 H2=>asB v1 (fun v3=>pif v3 (P (tuple ⟨[]⟩) H2) (B15 P N1 x0 x1 x2 x3 x4 x10 x11 x12 x13 H2)))
abbrev k14:Sk:=[(0,.v),(1,J),(2,J),(3,J),(4,.v),(10,.b),(11,.b),(12,J),(13,J),(14,J)]
def B17 (P:PT) (N1:Y k0):Y k14:=fun x0 x1 x2 x3 x4 x10 x11 x12 x13 x14 H=>
  pif x10 (pif x11 (pif ((x14:Int)==1) (B16 P N1 x0 x1 x2 x3 x4 x10 x11 x12 x13 H) (B15 P N1 x0 x1 x2 x3 x4 x10 x11 x12 x13 H)) (B15 P N1 x0 x1 x2 x3 x4 x10 x11 x12 x13 H)) (B15 P N1 x0 x1 x2 x3 x4 x10 x11 x12 x13 H)
def B18 (P:PT) (N1:Y k0):Y k13:=fun x0 x1 x2 x3 x4 x10 x11 x12 x13 H=>
  B17 P N1 x0 x1 x2 x3 x4 x10 x11 x12 x13 1 H
def B19 (P:PT) (N1:Y k0):Y k13:=fun x0 x1 x2 x3 x4 x10 x11 x12 x13 H=>
  B18 P N1 x0 x1 x2 x3 x4 x10 x11 x12 (i64.wrap ((i64.wrap (x2-1))-(i64.wrap (x13-x1)))) H
def B20 (P:PT) (N1:Y k0):Y k13:=fun x0 x1 x2 x3 x4 x10 x11 x12 x13 H=>
  A 175 [x0,(I x1),(I x2),x4] H (fun v1 H2=>asTup v1 (fun l3=>B19 P N1 x0 x1 x2 x3 x4 x10 x11 x12 x13 H2))
def B21 (P:PT) (N1:Y k0):Y k14:=fun x0 x1 x2 x3 x4 x10 x11 x12 x13 x14 H=>
  pif ((x14:Int)==2) (B20 P N1 x0 x1 x2 x3 x4 x10 x11 x12 x13 H) (B17 P N1 x0 x1 x2 x3 x4 x10 x11 x12 x13 x14 H)
abbrev k15:Sk:=[(0,.v),(1,J),(2,J),(3,J),(4,.v),(10,.b),(11,.b),(12,J)]
def B22 (P:PT) (N1:Y k0):Y k15:=fun x0 x1 x2 x3 x4 x10 x11 x12 H=>
  A 174 [x0,(I x1),(I x2),x4] H (fun v1 H2=>tup2 v1 (fun v3 v4=>asI .i64 v3 (fun v5=>asI .i64 v4 (fun v6=>B21 P N1 x0 x1 x2 x3 x4 x10 x11 x12 v5 v6 H2))))
def B23 (P:PT) (N1:Y k0):Y k15:=fun x0 x1 x2 x3 x4 x10 x11 x12 H=>
  B22 P N1 x0 x1 x2 (i64.wrap (x3-1)) x4 x10 x11 x12 H
def B24 (P:PT) (N1:Y k0):Y k15:=fun x0 x1 x2 x3 x4 x10 x11 x12 H=>
  A 173 [x0,(I x1),(I x2),x4] H (fun v1 H2=>asTup v1 (fun l3=>B23 P N1 x0 x1 x2 x3 x4 x10 x11 x12 H2))
def B25 (P:PT) (N1:Y k0):Y k15:=fun x0 x1 x2 x3 x4 x10 x11 x12 H=>
  pif (!x10) (B24 P N1 x0 x1 x2 x3 x4 x10 x11 x12 H) (B22 P N1 x0 x1 x2 x3 x4 x10 x11 x12 H)
abbrev k16:Sk:=[(0,.v),(1,J),(2,J),(4,.v)]
def B26 (P:PT) (N1:Y k0):Y k16:=fun x0 x1 x2 x4 H=>
  A 172 [x0,(I x1),(I x2),x4] H (fun v1 H2=>asTup v1 (fun l3=>P (tuple ⟨[]⟩) H2))
def B27 (P:PT) (N1:Y k0):Y k15:=fun x0 x1 x2 x3 x4 x10 x11 x12 H=>
  pif ((x3:Int)==0) (B26 P N1 x0 x1 x2 x4 H) (B25 P N1 x0 x1 x2 x3 x4 x10 x11 x12 H)
def B28 (P:PT) (N1:Y k0):Y k16:=fun x0 x1 x2 x4 H=>
  A 171 [x0,(I x1),(I x2),x4] H (fun v1 H2=>asTup v1 (fun l3=>P (tuple ⟨[]⟩) H2))
def B29 (P:PT) (N1:Y k0):Y k15:=fun x0 x1 x2 x3 x4 x10 x11 x12 H=>
  pif (decide ((x12:Int)≤12)) (B28 P N1 x0 x1 x2 x4 H) (B27 P N1 x0 x1 x2 x3 x4 x10 x11 x12 H)
def B30 (P:PT) (N1:Y k0):Y k0:=fun x0 x1 x2 x3 x4 x10 x11 H=>
  B29 P N1 x0 x1 x2 x3 x4 x10 x11 (i64.wrap (x2-x1)) H
def L1 (P:PT):Y k0:=fun x0 x1 x2 x3 x4 x10 x11 H=>
  ∃ (I:Y k0) (μ:NTy k0 (AHeap→Nat)),I x0 x1 x2 x3 x4 x10 x11 H∧∀ y0 y1 y2 y3 y4 y10 y11 G,I y0 y1 y2 y3 y4 y10 y11 G→B30 P (fun z0 z1 z2 z3 z4 z10 z11 G'=>I z0 z1 z2 z3 z4 z10 z11 G'∧μ z0 z1 z2 z3 z4 z10 z11 G'<μ y0 y1 y2 y3 y4 y10 y11 G) y0 y1 y2 y3 y4 y10 y11 G
theorem l1 P:LQ k0 (L1 P) (B30 P):=fun ⟨_,_,_,_,_,_,_,_⟩ _ ⟨I,μ,h0,hI⟩=>⟨apT _ I,apT _ μ,h0,fun ⟨_,_,_,_,_,_,_,_⟩ _ h=>hI _ _ _ _ _ _ _ _  h⟩
abbrev k17:Sk:=[(0,.v),(1,J),(2,J),(3,J),(4,.v),(10,.b)]
def B31 (P:PT):Y k17:=fun x0 x1 x2 x3 x4 x10 H=>
  L1 P x0 x1 x2 x3 x4 x10 true H
abbrev k18:Sk:=[(0,.v),(1,J),(2,J),(3,J),(4,.v)]
def B32 (P:PT):Y k18:=fun x0 x1 x2 x3 x4 H=>
  B31 P x0 x1 x2 x3 x4 true H
def code:Code:=(.seq (R 0 2) (.seq (R 1 6) (.block 0 (.loop (.block 1 (.seq (R 2 112) (.seq (.seq (R 3 452) (.cond (.tmp 25) (.seq (R 4 1812) .ret) .skip)) (.seq (.seq (R 5 908) (.cond (.tmp 32) (.seq (R 6 3636) .ret) .skip)) (.seq (.seq (R 7 1820) (.cond (.tmp 39) (.seq (R 8 7284) (R 9 7285)) .skip)) (.seq (R 10 1822) (.seq (.seq (R 11 7292) (.cond (.tmp 56) (.seq (R 12 29172) (.seq (R 13 58346) (R 14 58347))) .skip)) (.seq (.seq (R 15 14588) (.cond (.tmp 75) (.seq (R 16 58356) (.cond (.tmp 80) .ret .skip)) .skip)) (.seq (.seq (.region 17 ⟨o15⟩ true) (.cond (.tmp 97) (.seq (R 18 116724) (.seq (R 19 233450) (.exit 1))) .skip)) (.seq (R 20 29182) (.seq (R 21 58366) (.seq (R 22 116734) (.seq (R 23 233470) (.seq (R 24 466942) (.cond (.tmp 125) (.seq (R 25 1867772) (.seq (R 26 3735546) (R 27 3735547))) (.seq (R 28 1867774) (.seq (R 29 3735550) (R 30 3735551))))))))))))))))))))))
theorem body:Tryz.f122.body=some code:=by kernel_rfl
theorem main P:Z 148 k18 (B32 P) code (ret P):=
  (r_seq (b (E k17 (B31 P))) (r_seq (b (E k0 (L1 P))) (r_block (rL (l1 P) (fun N1=>(r_block (r_seq (b (E k15 (B29 P N1))) (r_seq (r_seq (b (cnd 25 (E k16 (B28 P N1)) (E k15 (B27 P N1)))) (r_cond rfl (r_seq (b (ret P)) r_ret) r_skip)) (r_seq (r_seq (b (cnd 32 (E k16 (B26 P N1)) (E k15 (B25 P N1)))) (r_cond rfl (r_seq (b (ret P)) r_ret) r_skip)) (r_seq (r_seq (b (cnd 39 (E k15 (B24 P N1)) (E k15 (B22 P N1)))) (r_cond rfl (r_seq (b (E k15 (B23 P N1))) (b (E k15 (B22 P N1)))) r_skip)) (r_seq (b (E k14 (B21 P N1))) (r_seq (r_seq (b (cnd 56 (E k13 (B20 P N1)) (E k14 (B17 P N1)))) (r_cond rfl (r_seq (b (E k13 (B19 P N1))) (r_seq (b (E k13 (B18 P N1))) (b (E k14 (B17 P N1))))) r_skip)) (r_seq (r_seq (b (cnd 75 (E k13 (B16 P N1)) (E k13 (B15 P N1)))) (r_cond rfl (r_seq (b (cnd 80 (ret P) (E k13 (B15 P N1)))) (r_cond rfl r_ret r_skip)) r_skip)) (r_seq (r_seq (rD T0_ok mixed [(0,false),(1,false),(2,false),(3,false),(4,false),(5,false),(6,false),(7,false),(8,false),(9,false),(10,false),(11,false),(12,false),(13,false),(14,false),(15,false),(16,false)] (by kernel_rfl) (q15 P N1)) (r_cond rfl (r_seq (b (E k11 (B13 P N1))) (r_seq (b (E k0 N1)) (r_exit (fun _ _ h=>h)))) r_skip)) (r_seq (b (E k9 (B11 P N1))) (r_seq (b (E k8 (B10 P N1))) (r_seq (b (E k7 (B9 P N1))) (r_seq (b (E k6 (B8 P N1))) (r_seq (b (cnd 125 (E k3 (B4 P N1)) (E k5 (B7 P N1)))) (r_cond rfl (r_seq (b (E k2 (B3 P N1))) (r_seq (b (E k1 (B2 P N1))) (b (E k0 N1)))) (r_seq (b (E k2 (B6 P N1))) (r_seq (b (E k4 (B5 P N1))) (b (E k0 N1))))))))))))))))))))))))
theorem ac (P:PT) (x0:Value) (x1 x2 x3:Int) (x4:Value) (H:AHeap) (h:B32 P x0 x1 x2 x3 x4 H):A 122 [x0,(I x1),(I x2),(I x3),x4] H P:=
  r_fn T0_ok (c:=code) (n:=148) Tryz.func122 body (by kernel_rfl) (main P) (En_mk (x0,x1,x2,x3,x4,()) (by kernel_rfl) ⟨by kernel_rfl,by kernel_rfl,by kernel_rfl,by kernel_rfl,by kernel_rfl,trivial⟩ h)

end F122
namespace F123
abbrev E:=En 8
def O (k:Nat):=ob Tryz.f123 (pth k)
abbrev R (i k:Nat):Code:=.region i ⟨O k⟩ false
def ret (P:PT):EP:=retE T0 8 Tryz.f123 P
abbrev k0:Sk:=[(0,.i .u64)]
def B1 (P:PT):Y k0:=fun x0 H=>
  A 180 [(int .u64 x0)] H (fun v1 H2=>asI .i64 v1 (fun v3=>P (I v3) H2))
def B2 (P:PT):Y k0:=fun x0 H=>
  B1 P x0 H
def code:Code:=(.seq (R 0 2) (.seq (.cond (.const (.bool false)) (codeAt (bodyOf Tryz.f123) [.r,.l,.l]) .skip) (.seq (R 2 14) .ret)))
theorem body:Tryz.f123.body=some code:=by kernel_rfl
theorem main P:Z 8 k0 (B2 P) code (ret P):=
  (r_seq (b (E k0 (B1 P))) (r_seq (r_condF r_skip) (r_seq (b (ret P)) r_ret)))
theorem ac (P:PT) (x0:Int) (H:AHeap) (h:B2 P x0 H):A 123 [(int .u64 x0)] H P:=
  r_fn T0_ok (c:=code) (n:=8) Tryz.func123 body (by kernel_rfl) (main P) (En_mk (x0,()) (by kernel_rfl) ⟨by kernel_rfl,trivial⟩ h)

end F123
namespace F124
abbrev E:=En 18
def O (k:Nat):=ob Tryz.f124 (pth k)
abbrev R (i k:Nat):Code:=.region i ⟨O k⟩ false
def ret (P:PT):EP:=retE T0 18 Tryz.f124 P
abbrev k0:Sk:=[(3,J)]
def B1 (P:PT):Y k0:=fun x3 H=>
  P (I x3) H
abbrev k1:Sk:=[(3,J),(6,.v),(7,J),(8,J)]
def B3 (P:PT) (N2:Y k1):Y k1:=fun x3 x6 x7 x8 H=>
  N2 x3 x6 x7 (i64.wrap (x8+1)) H
abbrev k2:Sk:=[(5,J)]
def B4 (P:PT) (N2:Y k1):Y k2:=fun x5 H=>
  P (I x5) H
abbrev k3:Sk:=[(3,J),(5,J),(6,.v),(7,J),(8,J)]
def B5 (P:PT) (N2:Y k1):Y k3:=fun x3 x5 x6 x7 x8 H=>
  pif ((x5:Int) != x3) (B4 P N2 x5 H) (B3 P N2 x3 x6 x7 x8 H)
def B6 (P:PT) (N2:Y k1):Y k1:=fun x3 x6 x7 x8 H=>
  idxK x6 x8 1 (fun b1 o2=>li H b1 o2 (fun v3=>B5 P N2 x3 v3 x6 x7 x8 H))
def B7 (P:PT) (N2:Y k1):Y k1:=fun x3 x6 x7 x8 H=>
  pif (decide ((x8:Int)<x7)) (B6 P N2 x3 x6 x7 x8 H) (B1 P x3 H)
def L2 (P:PT):Y k1:=fun x3 x6 x7 x8 H=>
  ∃ (I:Y k1) (μ:NTy k1 (AHeap→Nat)),I x3 x6 x7 x8 H∧∀ y3 y6 y7 y8 G,I y3 y6 y7 y8 G→B7 P (fun z3 z6 z7 z8 G'=>I z3 z6 z7 z8 G'∧μ z3 z6 z7 z8 G'<μ y3 y6 y7 y8 G) y3 y6 y7 y8 G
theorem l2 P:LQ k1 (L2 P) (B7 P):=fun ⟨_,_,_,_,_⟩ _ ⟨I,μ,h0,hI⟩=>⟨apT _ I,apT _ μ,h0,fun ⟨_,_,_,_,_⟩ _ h=>hI _ _ _ _ _  h⟩
abbrev k4:Sk:=[(0,.v),(3,J)]
def B8 (P:PT):Y k4:=fun x0 x3 H=>
  lenK x0 (fun n1=>L2 P x3 x0 (n1:Int) 0 H)
abbrev k5:Sk:=[(0,.v)]
def B9 (P:PT):Y k5:=fun x0 H=>
  B8 P x0 0 H
def B10 (P:PT):Y k5:=fun x0 H=>
  B9 P x0 H
def code:Code:=(.seq (R 0 2) (.seq (R 1 6) (.seq (.seq (R 2 28) (.block 0 (.loop (.seq (R 3 232) (.seq (.cond (.tmp 9) .skip (.exit 0)) (.seq (.block 1 (.seq (R 4 3736) (.seq (R 5 7474) (.cond (.tmp 14) (.seq (R 6 29900) .ret) .skip)))) (R 7 935))))))) (.seq (R 8 30) .ret))))
theorem body:Tryz.f124.body=some code:=by kernel_rfl
theorem main P:Z 18 k5 (B10 P) code (ret P):=
  (r_seq (b (E k5 (B9 P))) (r_seq (b (E k4 (B8 P))) (r_seq (r_seq (b (E k1 (L2 P))) (r_block (rL (l2 P) (fun N2=>(r_seq (b (cnd 9 (E k1 (B6 P N2)) (E k0 (B1 P)))) (r_seq (r_cond rfl r_skip (r_exit (fun _ _ h=>h))) (r_seq (r_block (r_seq (b (E k3 (B5 P N2))) (r_seq (b (cnd 14 (E k2 (B4 P N2)) (E k1 (B3 P N2)))) (r_cond rfl (r_seq (b (ret P)) r_ret) r_skip)))) (b (E k1 N2))))))))) (r_seq (b (ret P)) r_ret))))
theorem ac (P:PT) (x0:Value) (H:AHeap) (h:B10 P x0 H):A 124 [x0] H P:=
  r_fn T0_ok (c:=code) (n:=18) Tryz.func124 body (by kernel_rfl) (main P) (En_mk (x0,()) (by kernel_rfl) ⟨by kernel_rfl,trivial⟩ h)

end F124
namespace F125
abbrev E:=En 20
def O (k:Nat):=ob Tryz.f125 (pth k)
abbrev R (i k:Nat):Code:=.region i ⟨O k⟩ false
def ret (P:PT):EP:=retE T0 20 Tryz.f125 P
abbrev k0:Sk:=[]
def B1 (P:PT):Y k0:=fun H=>
  P (I 0) H
def B2 (P:PT):Y k0:=fun H=>
  P (I 1) H
abbrev k1:Sk:=[(0,J),(1,J)]
def B3 (P:PT):Y k1:=fun x0 x1 H=>
  pif (decide ((x0:Int)>x1)) (B2 P H) (B1 P H)
def B4 (P:PT):Y k0:=fun H=>
  P (I (-1)) H
def B5 (P:PT):Y k1:=fun x0 x1 H=>
  pif (decide ((x0:Int)<x1)) (B4 P H) (B3 P x0 x1 H)
def B6 (P:PT):Y k0:=fun H=>
  P (I 1) H
abbrev k2:Sk:=[(0,J),(1,J),(6,.b)]
def B7 (P:PT):Y k2:=fun x0 x1 x6 H=>
  pif x6 (B6 P H) (B5 P x0 x1 H)
def B8 (P:PT):Y k0:=fun H=>
  P (I (-1)) H
def B9 (P:PT):Y k0:=fun H=>
  P (I 0) H
abbrev k3:Sk:=[(6,.b)]
def B10 (P:PT):Y k3:=fun x6 H=>
  pif x6 (B9 P H) (B8 P H)
abbrev k4:Sk:=[(0,J),(1,J),(5,.b),(6,.b)]
def B11 (P:PT):Y k4:=fun x0 x1 x5 x6 H=>
  pif x5 (B10 P x6 H) (B7 P x0 x1 x6 H)
abbrev k5:Sk:=[(0,J),(1,J),(5,.b)]
def B12 (P:PT):Y k5:=fun x0 x1 x5 H=>
  A 181 [(I x1)] H (fun v1 H2=>asB v1 (fun v3=>B11 P x0 x1 x5 v3 H2))
def B13 (P:PT):Y k1:=fun x0 x1 H=>
  A 181 [(I x0)] H (fun v1 H2=>asB v1 (fun v3=>B12 P x0 x1 v3 H2))
def B14 (P:PT):Y k1:=fun x0 x1 H=>
  B13 P x0 x1 H
def code:Code:=(.seq (R 0 2) (.seq (R 1 6) (.seq (R 2 14) (.seq (.seq (R 3 60) (.cond (.tmp 11) (.seq (.seq (R 4 488) (.cond (.tmp 12) (.seq (R 5 1956) .ret) .skip)) (.seq (R 6 490) .ret)) .skip)) (.seq (.seq (R 7 124) (.cond (.tmp 13) (.seq (R 8 500) .ret) .skip)) (.seq (.seq (R 9 252) (.cond (.tmp 16) (.seq (R 10 1012) .ret) .skip)) (.seq (.seq (R 11 508) (.cond (.tmp 19) (.seq (R 12 2036) .ret) .skip)) (.seq (R 13 510) .ret))))))))
theorem body:Tryz.f125.body=some code:=by kernel_rfl
theorem main P:Z 20 k1 (B14 P) code (ret P):=
  (r_seq (b (E k1 (B13 P))) (r_seq (b (E k5 (B12 P))) (r_seq (b (E k4 (B11 P))) (r_seq (r_seq (b (cnd 11 (E k3 (B10 P)) (E k2 (B7 P)))) (r_cond rfl (r_seq (r_seq (b (cnd 12 (E k0 (B9 P)) (E k0 (B8 P)))) (r_cond rfl (r_seq (b (ret P)) r_ret) r_skip)) (r_seq (b (ret P)) r_ret)) r_skip)) (r_seq (r_seq (b (cnd 13 (E k0 (B6 P)) (E k1 (B5 P)))) (r_cond rfl (r_seq (b (ret P)) r_ret) r_skip)) (r_seq (r_seq (b (cnd 16 (E k0 (B4 P)) (E k1 (B3 P)))) (r_cond rfl (r_seq (b (ret P)) r_ret) r_skip)) (r_seq (r_seq (b (cnd 19 (E k0 (B2 P)) (E k0 (B1 P)))) (r_cond rfl (r_seq (b (ret P)) r_ret) r_skip)) (r_seq (b (ret P)) r_ret))))))))
theorem ac (P:PT) (x0 x1:Int) (H:AHeap) (h:B14 P x0 x1 H):A 125 [(I x0),(I x1)] H P:=
  r_fn T0_ok (c:=code) (n:=20) Tryz.func125 body (by kernel_rfl) (main P) (En_mk (x0,x1,()) (by kernel_rfl) ⟨by kernel_rfl,by kernel_rfl,trivial⟩ h)

end F125
end
end Go.Proofs
