import Derived.Test.YtjljbokjpcfblaaGreatDoorX30S
set_option linter.unusedVariables false
set_option maxRecDepth 100000
namespace Go.Proofs
open Go.Abs
noncomputable section
namespace F48
abbrev E:=En 69
abbrev Q:=QB Tryz.prog T0 69
def O (k:Nat):=ob Tryz.f48 (pth k)
def ret (P:PT):EP:=retE T0 69 Tryz.f48 P
abbrev k0:Sk:=[(3,.x),(4,.x),(5,.v)]
def o1:=O 30
def B1 (P:PT):Y k0:=fun x3 x4 x5 H=>
  ldI .i64 H x3 0 (fun v1=>pif (Value.oneCell' x5) (stK H x4 0 [(Value.int .i64 v1),x5] (fun H2=>ldI .i64 H2 x4 0 (fun v3=>ld1 H2 x4 1 (fun v4=>P (Value.agg ⟨[(Value.int .i64 v3),v4]⟩) H2)))) False)
theorem q1 P:Q o1 (ret P) k0 (B1 P):=fun _ _ _ _ _=>by kernel_rfl
abbrev k1:Sk:=[(0,.v),(3,.x),(4,.x),(5,.v)]
def o2:=O 468
def B2 (P:PT):Y k1:=fun x0 x3 x4 x5 H=>
  ldI .i64 H x3 0 (fun v1=>newK H [(Value.int .i64 0),(Value.int .i64 3),(Value.int .i64 22),(Value.int .i64 (-2)),(Value.int .i64 (IntKind.i64.wrap (v1+2)))] 2 (fun b2 H3=>AC Tryz.prog T0 56 [x0,(Value.slice (some ⟨b2,0,none⟩) 5 (5+1))] H3 (fun v4 H5=>asI .i64 v4 (fun v6=>pif (Value.oneCell' x5) (stK H5 x4 0 [(Value.int .i64 v6),x5] (fun H7=>ldI .i64 H7 x4 0 (fun v8=>ld1 H7 x4 1 (fun v9=>P (Value.agg ⟨[(Value.int .i64 v8),v9]⟩) H7)))) False))))
theorem q2 P:Q o2 (ret P) k1 (B2 P):=fun _ _ _ _ _ _=>by kernel_rfl
def o3:=O 942
def B3 (P:PT):Y k1:=fun x0 x3 x4 x5 H=>
  lenK x5 (fun n1=>ldI .i64 H x3 0 (fun v2=>ldI .i64 H x3 0 (fun v3=>(AC Tryz.prog T0 27 [x0,(Value.int .i64 (n1:Int))] H (fun v4 H5=>asI .i64 v4 (fun v6=>(ldI .i64 H5 x3 0 (fun v7=>((Value.int .i64 v7)=(Value.int .i64 v2))∧(H5=H5)))∧((ldI .i64 H5 x3 0 (fun v8=>((Value.int .i64 v8)=(Value.int .i64 v3))∧(H5=H5)))∧((AC Tryz.prog T0 27 [x0,(Value.int .i64 v2)] H5 (fun v9 H10=>asI .i64 v9 (fun v11=>(ldI .i64 H10 x3 0 (fun v12=>((Value.int .i64 v12)=(Value.int .i64 v3))∧(H10=H10)))∧(newK H10 [(Value.int .i64 (-1)),(Value.int .i64 v3),(Value.int .i64 0)] 2 (fun b13 H14=>AC Tryz.prog T0 56 [x0,(Value.slice (some ⟨b13,0,none⟩) 3 (3+1))] H14 (fun v15 H16=>asI .i64 v15 (fun v17=>idxK x5 v6 2 (fun b18 o19=>stK H16 b18 o19 [(Value.int .i64 v11),(Value.int .i64 v17)] (fun H20=>B1 P x3 x4 x5 H20)))))))))∧(newK H5 [(Value.int .i64 (-1)),(Value.int .i64 v3),(Value.int .i64 0)] 2 (fun b21 H22=>AC Tryz.prog T0 27 [x0,(Value.int .i64 v2)] H22 (fun v23 H24=>asI .i64 v23 (fun v25=>(ldI .i64 H24 x3 0 (fun v26=>((Value.int .i64 v26)=(Value.int .i64 v3))∧(H24=H24)))∧(AC Tryz.prog T0 56 [x0,(Value.slice (some ⟨b21,0,none⟩) 3 (3+1))] H24 (fun v27 H28=>asI .i64 v27 (fun v29=>idxK x5 v6 2 (fun b30 o31=>stK H28 b30 o31 [(Value.int .i64 v25),(Value.int .i64 v29)] (fun H32=>B1 P x3 x4 x5 H32))))))))))))))∧(newK H [(Value.int .i64 (-1)),(Value.int .i64 v3),(Value.int .i64 0)] 2 (fun b33 H34=>AC Tryz.prog T0 27 [x0,(Value.int .i64 (n1:Int))] H34 (fun v35 H36=>asI .i64 v35 (fun v37=>(ldI .i64 H36 x3 0 (fun v38=>((Value.int .i64 v38)=(Value.int .i64 v2))∧(H36=H36)))∧((ldI .i64 H36 x3 0 (fun v39=>((Value.int .i64 v39)=(Value.int .i64 v3))∧(H36=H36)))∧(AC Tryz.prog T0 27 [x0,(Value.int .i64 v2)] H36 (fun v40 H41=>asI .i64 v40 (fun v42=>(ldI .i64 H41 x3 0 (fun v43=>((Value.int .i64 v43)=(Value.int .i64 v3))∧(H41=H41)))∧(AC Tryz.prog T0 56 [x0,(Value.slice (some ⟨b33,0,none⟩) 3 (3+1))] H41 (fun v44 H45=>asI .i64 v44 (fun v46=>idxK x5 v37 2 (fun b47 o48=>stK H45 b47 o48 [(Value.int .i64 v42),(Value.int .i64 v46)] (fun H49=>B1 P x3 x4 x5 H49))))))))))))))))
theorem q3 (P:PT):QT Tryz.prog T0 69 o3 (.op 0 [] (.op 1 [] (.op 2 [] (.op 3 [] (.op 5 [] (.op 6 [] (.op 7 [] (.op 9 [] (.op 10 [] (.op 11 [] (.alt (.op 4 [7,11] (.alt (.op 8 [11] (.op 12 [] (.op 13 [] (.op 14 [] (.op 15 [] (.op 16 [] .done)))))) (.op 12 [] (.op 8 [11] (.op 13 [] (.op 14 [] (.op 15 [] (.op 16 [] .done)))))))) (.op 12 [] (.op 4 [7,11] (.op 8 [11] (.op 13 [] (.op 14 [] (.op 15 [] (.op 16 [] .done)))))))))))))))))) (En 69 k0 (B1 P)) k1 (B3 P):=fun _ _ _ _ _ _  => by kernel_rfl
abbrev k2:Sk:=[(3,.x),(4,.x),(5,.v),(6,.x)]
def o4:=O 15099
def B4 (P:PT):Y k2:=fun x3 x4 x5 x6 H=>
  lenK x5 (fun n1=>ldI .i64 H x6 0 (fun v2=>ldI .i64 H x6 1 (fun v3=>idxK x5 (IntKind.i64.wrap ((n1:Int)-1)) 2 (fun b4 o5=>stK H b4 o5 [(Value.int .i64 v2),(Value.int .i64 v3)] (fun H6=>B1 P x3 x4 x5 H6)))))
theorem q4 P:Q o4 (E k0 (B1 P)) k2 (B4 P):=fun _ _ _ _ _ _=>by kernel_rfl
def o5:=O 15098
def B5 (P:PT):Y k2:=fun x3 x4 x5 x6 H=>
  lenK x5 (fun n1=>idxK x5 (IntKind.i64.wrap ((n1:Int)-1)) 2 (fun b2 o3=>ldI .i64 H b2 o3 (fun v4=>ldI .i64 H b2 (o3+1) (fun v5=>idxK x5 0 2 (fun b6 o7=>stK H b6 o7 [(Value.int .i64 v4),(Value.int .i64 v5)] (fun H8=>B4 P x3 x4 x5 x6 H8))))))
theorem q5 P:Q o5 (E k2 (B4 P)) k2 (B5 P):=fun _ _ _ _ _ _=>by kernel_rfl
def o6:=O 7548
def B6 (P:PT):Y k0:=fun x3 x4 x5 H=>
  idxK x5 0 2 (fun b1 o2=>ldI .i64 H b1 o2 (fun v3=>ldI .i64 H b1 (o2+1) (fun v4=>newK H [(Value.int .i64 0),(Value.int .i64 0)] 84 (fun b5 H6=>stK H6 b5 0 [(Value.int .i64 v3),(Value.int .i64 v4)] (fun H7=>B5 P x3 x4 x5 b5 H7)))))
theorem q6 P:Q o6 (E k2 (B5 P)) k0 (B6 P):=fun _ _ _ _ _=>by kernel_rfl
def o7:=O 15102
def B7 (P:PT):Y k0:=fun x3 x4 x5 H=>
  sliceK H 84 x5 (some (Value.int .i64 1)) none 2 (fun v1=>B1 P x3 x4 v1 H)
theorem q7 P:Q o7 (E k0 (B1 P)) k0 (B7 P):=fun _ _ _ _ _=>by kernel_rfl
abbrev k3:Sk:=[(3,.x),(4,.x)]
def o8:=O 30206
def B8 (P:PT):Y k3:=fun x3 x4 H=>
  ldI .i64 H x3 0 (fun v1=>ld1 H x3 1 (fun v2=>stK H x4 0 [(Value.int .i64 v1),v2] (fun H3=>ldI .i64 H3 x4 0 (fun v4=>ld1 H3 x4 1 (fun v5=>P (Value.agg ⟨[(Value.int .i64 v4),v5]⟩) H3)))))
theorem q8 P:Q o8 (ret P) k3 (B8 P):=fun _ _ _ _=>by kernel_rfl
abbrev k4:Sk:=[(3,.x),(4,.x),(5,.v),(12,J)]
def o9:=O 7550
def B9 (P:PT):Y k4:=fun x3 x4 x5 x12 H=>
  pif ((x12:Int)==3) (B7 P x3 x4 x5 H) (B8 P x3 x4 H)
theorem q9 P:Q o9 (cnd 61 (E k0 (B7 P)) (E k3 (B8 P))) k4 (B9 P):=fun _ _ _ _ _ _=>by kernel_rfl
def o10:=O 1886
def B10 (P:PT):Y k4:=fun x3 x4 x5 x12 H=>
  pif ((x12:Int)==2) (B6 P x3 x4 x5 H) (B9 P x3 x4 x5 x12 H)
theorem q10 P:Q o10 (cnd 42 (E k0 (B6 P)) (E k4 (B9 P))) k4 (B10 P):=fun _ _ _ _ _ _=>by kernel_rfl
abbrev k5:Sk:=[(0,.v),(3,.x),(4,.x),(5,.v),(12,J)]
def o11:=O 470
def B11 (P:PT):Y k5:=fun x0 x3 x4 x5 x12 H=>
  pif ((x12:Int)==1) (B3 P x0 x3 x4 x5 H) (B10 P x3 x4 x5 x12 H)
theorem q11 P:Q o11 (cnd 24 (E k1 (B3 P)) (E k4 (B10 P))) k5 (B11 P):=fun _ _ _ _ _ _ _=>by kernel_rfl
def o12:=O 116
def B12 (P:PT):Y k5:=fun x0 x3 x4 x5 x12 H=>
  pif ((x12:Int)==0) (B2 P x0 x3 x4 x5 H) (B11 P x0 x3 x4 x5 x12 H)
theorem q12 P:Q o12 (cnd 14 (E k1 (B2 P)) (E k5 (B11 P))) k5 (B12 P):=fun _ _ _ _ _ _ _=>by kernel_rfl
def o13:=O 28
def B13 (P:PT):Y k1:=fun x0 x3 x4 x5 H=>
  AC Tryz.prog T0 27 [x0,(Value.int .i64 50)] H (fun v1 H2=>asI .i64 v1 (fun v3=>B12 P x0 x3 x4 x5 v3 H2))
theorem q13 P:Q o13 (E k5 (B12 P)) k1 (B13 P):=fun _ _ _ _ _ _=>by kernel_rfl
abbrev k6:Sk:=[(0,.v),(3,.x),(4,.x)]
def o14:=O 6
def B14 (P:PT):Y k6:=fun x0 x3 x4 H=>
  newK H [] 84 (fun b1 H2=>ld1 H2 x3 1 (fun v3=>apK T0 84 H2 (Value.slice (some ⟨b1,0,none⟩) 0 (0+1)) v3 (fun v4 H5=>B13 P x0 x3 x4 v4 H5)))
theorem q14 P:Q o14 (E k1 (B13 P)) k6 (B14 P):=fun _ _ _ _ _=>by kernel_rfl
abbrev k7:Sk:=[(0,.v),(1,.g [.i,.v])]
def o15:=O 2
def B15 (P:PT):Y k7:=fun x0 x1a x1b H=>
  newK H [(Value.int .i64 x1a),x1b] 26 (fun b1 H2=>newK H2 [(Value.int .i64 0),(Value.slice none 0 0)] 26 (fun b3 H4=>B14 P x0 b1 b3 H4))
theorem q15 P:Q o15 (E k6 (B14 P)) k7 (B15 P):=fun _ _ _ _ _=>by kernel_rfl
def code:Code:=(.seq (R 0 o15) (.seq (R 1 o14) (.seq (.seq (R 2 o13) (.block 0 (.seq (R 4 o12) (.cond (.tmp 14) (.seq (R 5 o2) .ret) (.seq (R 6 o11) (.cond (.tmp 24) (.region 7 ⟨o3⟩ true) (.seq (R 8 o10) (.cond (.tmp 42) (.seq (R 9 o6) (.seq (R 10 o5) (R 11 o4))) (.seq (R 12 o9) (.cond (.tmp 61) (R 13 o7) (.seq (R 3 o8) .ret))))))))))) (.seq (R 14 o1) .ret))))
theorem body:Tryz.f48.body=some code:=by kernel_rfl
theorem main (P:PT):∀ env H,(En 69 k7 (B15 P)) env H→AW Tryz.prog T0 code env H (M (ret P)):=
  (r_seq (b (q15 P)) (r_seq (b (q14 P)) (r_seq (r_seq (b (q13 P)) (r_block (r_seq (b (q12 P)) (r_cond rfl (r_seq (b (q2 P)) r_ret) (r_seq (b (q11 P)) (r_cond rfl (rT T0_ok mixed (.op 0 [] (.op 1 [] (.op 2 [] (.op 3 [] (.op 5 [] (.op 6 [] (.op 7 [] (.op 9 [] (.op 10 [] (.op 11 [] (.alt (.op 4 [7,11] (.alt (.op 8 [11] (.op 12 [] (.op 13 [] (.op 14 [] (.op 15 [] (.op 16 [] .done)))))) (.op 12 [] (.op 8 [11] (.op 13 [] (.op 14 [] (.op 15 [] (.op 16 [] .done)))))))) (.op 12 [] (.op 4 [7,11] (.op 8 [11] (.op 13 [] (.op 14 [] (.op 15 [] (.op 16 [] .done)))))))))))))))))) (by kernel_rfl) (q3 P)) (r_seq (b (q10 P)) (r_cond rfl (r_seq (b (q6 P)) (r_seq (b (q5 P)) (b (q4 P)))) (r_seq (b (q9 P)) (r_cond rfl (b (q7 P)) (r_seq (b (q8 P)) r_ret))))))))))) (r_seq (b (q1 P)) r_ret))))
theorem ac (P:PT) (x0:Value) (x1a:Int) (x1b:Value) (H:AHeap) (h:B15 P x0 x1a x1b H):AC Tryz.prog T0 48 [x0,(Value.agg ⟨[(Value.int .i64 x1a),x1b]⟩)] H P:=
  r_fn T0_ok (c:=code) (n:=69) Tryz.func48 body (by kernel_rfl) (main P) (En_mk (x0,x1a,x1b,()) (by kernel_rfl) ⟨by kernel_rfl,by kernel_rfl,trivial⟩ h)

end F48
namespace F49
abbrev E:=En 40
abbrev Q:=QB Tryz.prog T0 40
def O (k:Nat):=ob Tryz.f49 (pth k)
def ret (P:PT):EP:=retE T0 40 Tryz.f49 P
abbrev k0:Sk:=[(0,.v),(2,.x)]
def o1:=O 30
def B1 (P:PT):Y k0:=fun x0 x2 H=>
  newK H [(Value.int .i64 2),(Value.int .i64 4),(Value.int .i64 6),(Value.int .i64 8),(Value.int .i64 10),(Value.int .i64 12),(Value.int .i64 14),(Value.int .i64 20)] 2 (fun b1 H2=>AC Tryz.prog T0 56 [x0,(Value.slice (some ⟨b1,0,none⟩) 8 (8+1))] H2 (fun v3 H4=>asI .i64 v3 (fun v5=>AC Tryz.prog T0 83 [x0,(Value.int .i64 v5)] H4 (fun v6 H7=>agg2 v6 (fun v8 v9=>asI .i64 v8 (fun v10=>stK H7 x2 0 [(Value.int .i64 v10),v9] (fun H12=>ldI .i64 H12 x2 0 (fun v13=>ld1 H12 x2 1 (fun v14=>P (Value.agg ⟨[(Value.int .i64 v13),v14]⟩) H12)))))))))
theorem q1 P:Q o1 (ret P) k0 (B1 P):=fun _ _ _ _=>by kernel_rfl
def o2:=O 116
def B2 (P:PT):Y k0:=fun x0 x2 H=>
  AC Tryz.prog T0 68 [x0] H (fun v1 H2=>agg2 v1 (fun v3 v4=>asI .i64 v3 (fun v5=>AC Tryz.prog T0 68 [x0] H2 (fun v7 H8=>agg2 v7 (fun v9 v10=>asI .i64 v9 (fun v11=>AC Tryz.prog T0 82 [(Value.agg ⟨[(Value.int .i64 v5),v4]⟩),(Value.agg ⟨[(Value.int .i64 v11),v10]⟩)] H8 (fun v13 H14=>agg2 v13 (fun v15 v16=>asI .i64 v15 (fun v17=>stK H14 x2 0 [(Value.int .i64 v17),v16] (fun H19=>ldI .i64 H19 x2 0 (fun v20=>ld1 H19 x2 1 (fun v21=>P (Value.agg ⟨[(Value.int .i64 v20),v21]⟩) H19))))))))))))
theorem q2 P:Q o2 (ret P) k0 (B2 P):=fun _ _ _ _=>by kernel_rfl
def o3:=O 28
def B3 (P:PT):Y k0:=fun x0 x2 H=>
  AC Tryz.prog T0 27 [x0,(Value.int .i64 8)] H (fun v1 H2=>asI .i64 v1 (fun v3=>pif ((v3:Int)==0) (B2 P x0 x2 H2) (B1 P x0 x2 H2)))
theorem q3 P:Q o3 (cnd 29 (E k0 (B2 P)) (E k0 (B1 P))) k0 (B3 P):=fun _ _ _ _=>by kernel_rfl
abbrev k1:Sk:=[(0,.v),(2,.x),(4,.x)]
def o4:=O 214
def B4 (P:PT):Y k1:=fun x0 x2 x4 H=>
  ldI .i64 H x4 0 (fun v1=>ld1 H x4 1 (fun v2=>ldI .i64 H x4 0 (fun v3=>AC Tryz.prog T0 81 [x0,(Value.int .i64 v3)] H (fun v4 H5=>(ldI .i64 H5 x4 0 (fun v7=>ld1 H5 x4 1 (fun v8=>((Value.agg ⟨[(Value.int .i64 v7),v8]⟩)=(Value.agg ⟨[(Value.int .i64 v1),v2]⟩))∧(H5=H5))))∧(AC Tryz.prog T0 80 [(Value.agg ⟨[(Value.int .i64 v1),v2]⟩),v4] H5 (fun v9 H10=>agg2 v9 (fun v11 v12=>asI .i64 v11 (fun v13=>stK H10 x2 0 [(Value.int .i64 v13),v12] (fun H15=>ldI .i64 H15 x2 0 (fun v16=>ld1 H15 x2 1 (fun v17=>P (Value.agg ⟨[(Value.int .i64 v16),v17]⟩) H15)))))))))))
theorem q4 (P:PT):QT Tryz.prog T0 40 o4 (.op 0 [] (.op 1 [] (.op 2 [] (.op 3 [] (.op 4 [0] (.op 5 [] (.op 6 [] .done))))))) (ret P) k1 (B4 P):=fun _ _ _ _ _  => by kernel_rfl
abbrev k2:Sk:=[(0,.v),(2,.x),(3,.v)]
def o5:=O 106
def B5 (P:PT):Y k2:=fun x0 x2 x3 H=>
  lenK x3 (fun n1=>AC Tryz.prog T0 27 [x0,(Value.int .i64 (n1:Int))] H (fun v2 H3=>asI .i64 v2 (fun v4=>idxK x3 v4 1 (fun b5 o6=>ld1 H3 b5 o6 (fun v8=>asS v8 (fun v7=>AC Tryz.prog T0 79 [(Value.string v7)] H3 (fun v9 H10=>tup2 v9 (fun v11 v12=>agg2 v11 (fun v13 v14=>asI .i64 v13 (fun v15=>asB v12 (fun v17=>newK H10 [(Value.int .i64 0),(Value.slice none 0 0)] 26 (fun b18 H19=>stK H19 b18 0 [(Value.int .i64 v15),v14] (fun H20=>B4 P x0 x2 b18 H20)))))))))))))
theorem q5 P:Q o5 (E k1 (B4 P)) k2 (B5 P):=fun _ _ _ _ _=>by kernel_rfl
def o6:=O 52
def B6 (P:PT):Y k0:=fun x0 x2 H=>
  AC Tryz.prog T0 78 [] H (fun v1 H2=>B5 P x0 x2 v1 H2)
theorem q6 P:Q o6 (E k2 (B5 P)) k0 (B6 P):=fun _ _ _ _=>by kernel_rfl
def o7:=O 12
def B7 (P:PT):Y k0:=fun x0 x2 H=>
  AC Tryz.prog T0 27 [x0,(Value.int .i64 3)] H (fun v1 H2=>asI .i64 v1 (fun v3=>pif ((v3:Int)==0) (B6 P x0 x2 H2) (B3 P x0 x2 H2)))
theorem q7 P:Q o7 (cnd 8 (E k0 (B6 P)) (E k0 (B3 P))) k0 (B7 P):=fun _ _ _ _=>by kernel_rfl
abbrev k3:Sk:=[(0,.v)]
def o8:=O 2
def B8 (P:PT):Y k3:=fun x0 H=>
  newK H [(Value.int .i64 0),(Value.slice none 0 0)] 26 (fun b1 H2=>B7 P x0 b1 H2)
theorem q8 P:Q o8 (E k0 (B7 P)) k3 (B8 P):=fun _ _ _=>by kernel_rfl
def code:Code:=(.seq (R 0 o8) (.seq (.seq (R 1 o7) (.cond (.tmp 8) (.seq (R 2 o6) (.seq (R 3 o5) (.seq (.region 4 ⟨o4⟩ true) .ret))) .skip)) (.seq (.seq (R 5 o3) (.cond (.tmp 29) (.seq (R 6 o2) .ret) .skip)) (.seq (R 7 o1) .ret))))
theorem body:Tryz.f49.body=some code:=by kernel_rfl
theorem main (P:PT):∀ env H,(En 40 k3 (B8 P)) env H→AW Tryz.prog T0 code env H (M (ret P)):=
  (r_seq (b (q8 P)) (r_seq (r_seq (b (q7 P)) (r_cond rfl (r_seq (b (q6 P)) (r_seq (b (q5 P)) (r_seq (rT T0_ok mixed (.op 0 [] (.op 1 [] (.op 2 [] (.op 3 [] (.op 4 [0] (.op 5 [] (.op 6 [] .done))))))) (by kernel_rfl) (q4 P)) r_ret))) r_skip)) (r_seq (r_seq (b (q3 P)) (r_cond rfl (r_seq (b (q2 P)) r_ret) r_skip)) (r_seq (b (q1 P)) r_ret))))
theorem ac (P:PT) (x0:Value) (H:AHeap) (h:B8 P x0 H):AC Tryz.prog T0 49 [x0] H P:=
  r_fn T0_ok (c:=code) (n:=40) Tryz.func49 body (by kernel_rfl) (main P) (En_mk (x0,()) (by kernel_rfl) ⟨by kernel_rfl,trivial⟩ h)

end F49
namespace F50
abbrev E:=En 25
abbrev Q:=QB Tryz.prog T0 25
def O (k:Nat):=ob Tryz.f50 (pth k)
def ret (P:PT):EP:=retE T0 25 Tryz.f50 P
abbrev k0:Sk:=[(1,.x)]
def o1:=O 6
def B1 (P:PT):Y k0:=fun x1 H=>
  ldI .i64 H x1 0 (fun v1=>ld1 H x1 1 (fun v2=>AC Tryz.prog T0 84 [(Value.int .i64 v1),v2] H (fun v3 H4=>asB v3 (fun v5=>pif v5 (ld1 H4 x1 1 (fun v6=>AC Tryz.prog T0 85 [v6,(Value.func (.func 86) ⟨[]⟩ ⟨[]⟩)] H4 (fun v7 H8=>asB v7 (fun v9=>pif v9 (ld1 H8 x1 1 (fun v10=>AC Tryz.prog T0 87 [v10,(Value.func (.func 88) ⟨[]⟩ ⟨[]⟩)] H8 (fun v11 H12=>asB v11 (fun v13=>pif v13 (ldI .i64 H12 x1 0 (fun v14=>ld1 H12 x1 1 (fun v15=>AC Tryz.prog T0 89 [(Value.int .i64 v14),v15] H12 (fun v16 H17=>asB v16 (fun v18=>P (Value.bool v18) H17))))) (P (Value.bool false) H12))))) (P (Value.bool false) H8))))) (P (Value.bool false) H4)))))
theorem q1 P:Q o1 (ret P) k0 (B1 P):=fun _ _ _=>by kernel_rfl
abbrev k1:Sk:=[(0,.g [.i,.v])]
def o2:=O 2
def B2 (P:PT):Y k1:=fun x0a x0b H=>
  newK H [(Value.int .i64 x0a),x0b] 26 (fun b1 H2=>B1 P b1 H2)
theorem q2 P:Q o2 (E k0 (B1 P)) k1 (B2 P):=fun _ _ _ _=>by kernel_rfl
def code:Code:=(.seq (R 0 o2) (.seq (R 1 o1) .ret))
theorem body:Tryz.f50.body=some code:=by kernel_rfl
theorem main (P:PT):∀ env H,(En 25 k1 (B2 P)) env H→AW Tryz.prog T0 code env H (M (ret P)):=
  (r_seq (b (q2 P)) (r_seq (b (q1 P)) r_ret))
theorem ac (P:PT) (x0a:Int) (x0b:Value) (H:AHeap) (h:B2 P x0a x0b H):AC Tryz.prog T0 50 [(Value.agg ⟨[(Value.int .i64 x0a),x0b]⟩)] H P:=
  r_fn T0_ok (c:=code) (n:=25) Tryz.func50 body (by kernel_rfl) (main P) (En_mk (x0a,x0b,()) (by kernel_rfl) ⟨by kernel_rfl,trivial⟩ h)

end F50
namespace F51
abbrev E:=En 9
abbrev Q:=QB Tryz.prog T0 9
def O (k:Nat):=ob Tryz.f51 (pth k)
def ret (P:PT):EP:=retE T0 9 Tryz.f51 P
abbrev k0:Sk:=[(5,.x)]
def o1:=O 30
def B1 (P:PT):Y k0:=fun x5 H=>
  ld1 H x5 0 (fun v1=>callV Tryz.prog T0 v1 [(Value.int .u64 0),(Value.int .u64 0)] H (fun v2 H3=>asB v2 (fun v4=>P (Value.bool v4) H3)))
theorem q1 P:Q o1 (ret P) k0 (B1 P):=fun _ _ _=>by kernel_rfl
abbrev k1:Sk:=[(2,.x),(3,.x),(5,.x)]
def o2:=O 14
def B2 (P:PT):Y k1:=fun x2 x3 x5 H=>
  stK H x5 0 [(Value.func (.func 90) ⟨[]⟩ ⟨[(Value.pointer (some ⟨x2,0,none⟩)),(Value.pointer (some ⟨x3,0,none⟩)),(Value.pointer (some ⟨x5,0,none⟩))]⟩)] (fun H1=>B1 P x5 H1)
theorem q2 P:Q o2 (E k0 (B1 P)) k1 (B2 P):=fun _ _ _ _ _=>by kernel_rfl
abbrev k2:Sk:=[(2,.x),(3,.x)]
def o3:=O 6
def B3 (P:PT):Y k2:=fun x2 x3 H=>
  newK H [Value.nilFunc] 116 (fun b1 H2=>B2 P x2 x3 b1 H2)
theorem q3 P:Q o3 (E k1 (B2 P)) k2 (B3 P):=fun _ _ _ _=>by kernel_rfl
abbrev k3:Sk:=[(0,.g [.i,.v]),(1,.v)]
def o4:=O 2
def B4 (P:PT):Y k3:=fun x0a x0b x1 H=>
  newK H [(Value.int .i64 x0a),x0b] 26 (fun b1 H2=>pif (Value.oneCell' x1) (newK H2 [x1] 72 (fun b3 H4=>B3 P b1 b3 H4)) False)
theorem q4 P:Q o4 (E k2 (B3 P)) k3 (B4 P):=fun _ _ _ _ _=>by kernel_rfl
def code:Code:=(.seq (R 0 o4) (.seq (R 1 o3) (.seq (R 2 o2) (.seq (R 3 o1) .ret))))
theorem body:Tryz.f51.body=some code:=by kernel_rfl
theorem main (P:PT):∀ env H,(En 9 k3 (B4 P)) env H→AW Tryz.prog T0 code env H (M (ret P)):=
  (r_seq (b (q4 P)) (r_seq (b (q3 P)) (r_seq (b (q2 P)) (r_seq (b (q1 P)) r_ret))))
theorem ac (P:PT) (x0a:Int) (x0b x1:Value) (H:AHeap) (h:B4 P x0a x0b x1 H):AC Tryz.prog T0 51 [(Value.agg ⟨[(Value.int .i64 x0a),x0b]⟩),x1] H P:=
  r_fn T0_ok (c:=code) (n:=9) Tryz.func51 body (by kernel_rfl) (main P) (En_mk (x0a,x0b,x1,()) (by kernel_rfl) ⟨by kernel_rfl,by kernel_rfl,trivial⟩ h)

end F51
namespace F52
abbrev E:=En 21
abbrev Q:=QB Tryz.prog T0 21
def O (k:Nat):=ob Tryz.f52 (pth k)
def ret (P:PT):EP:=retE T0 21 Tryz.f52 P
abbrev k0:Sk:=[(2,.v)]
def o1:=O 14
def B1 (P:PT):Y k0:=fun x2 H=>
  asP x2 (fun b1 o2=>ldI .i64 H b1 o2 (fun v3=>P (Value.bool ((v3:Int)==0)) H))
theorem q1 P:Q o1 (ret P) k0 (B1 P):=fun _ _ _=>by kernel_rfl
abbrev k1:Sk:=[(0,.i .u64),(2,.v),(3,.v),(6,J)]
def o2:=O 54
def B2 (P:PT):Y k1:=fun x0 x2 x3 x6 H=>
  asP x3 (fun b1 o2=>stK H b1 o2 [(Value.int .u64 x0)] (fun H3=>asP x2 (fun b4 o5=>stK H3 b4 o5 [(Value.int .i64 x6)] (fun H6=>B1 P x2 H6))))
theorem q2 P:Q o2 (E k0 (B1 P)) k1 (B2 P):=fun _ _ _ _ _ _=>by kernel_rfl
def o3:=O 26
def B3 (P:PT):Y k1:=fun x0 x2 x3 x6 H=>
  asP x2 (fun b1 o2=>ldI .i64 H b1 o2 (fun v3=>pif ((v3:Int)==(-1)) (B2 P x0 x2 x3 x6 H) (asP x2 (fun b4 o5=>ldI .i64 H b4 o5 (fun v6=>pif (decide ((x6:Int)<v6)) (B2 P x0 x2 x3 x6 H) (B1 P x2 H))))))
theorem q3 P:Q o3 (cnd 16 (E k1 (B2 P)) (E k0 (B1 P))) k1 (B3 P):=fun _ _ _ _ _ _=>by kernel_rfl
abbrev k2:Sk:=[(0,.i .u64),(1,.v),(2,.v),(3,.v)]
def o4:=O 12
def B4 (P:PT):Y k2:=fun x0 x1 x2 x3 H=>
  asP x1 (fun b1 o2=>ldI .i64 H b1 o2 (fun v3=>ld1 H b1 (o2+1) (fun v4=>AC Tryz.prog T0 30 [(Value.agg ⟨[(Value.int .i64 v3),v4]⟩),(Value.int .u64 x0)] H (fun v5 H6=>asI .i64 v5 (fun v7=>B3 P x0 x2 x3 v7 H6)))))
theorem q4 P:Q o4 (E k1 (B3 P)) k2 (B4 P):=fun _ _ _ _ _ _=>by kernel_rfl
def o5:=O 2
def B5 (P:PT):Y k2:=fun x0 x1 x2 x3 H=>
  B4 P x0 x1 x2 x3 H
theorem q5 P:Q o5 (E k2 (B4 P)) k2 (B5 P):=fun _ _ _ _ _ _=>by kernel_rfl
def code:Code:=(.seq (R 0 o5) (.seq (.seq (R 1 o4) (.seq (R 2 o3) (.cond (.tmp 16) (R 3 o2) .skip))) (.seq (R 4 o1) .ret)))
theorem body:Tryz.f52.body=some code:=by kernel_rfl
theorem main (P:PT):∀ env H,(En 21 k2 (B5 P)) env H→AW Tryz.prog T0 code env H (M (ret P)):=
  (r_seq (b (q5 P)) (r_seq (r_seq (b (q4 P)) (r_seq (b (q3 P)) (r_cond rfl (b (q2 P)) r_skip))) (r_seq (b (q1 P)) r_ret)))
theorem ac (P:PT) (x0:Int) (x1 x2 x3:Value) (H:AHeap) (h:B5 P x0 x1 x2 x3 H):AC Tryz.prog T0 52 [(Value.int .u64 x0),x1,x2,x3] H P:=
  r_fn T0_ok (c:=code) (n:=21) Tryz.func52 body (by kernel_rfl) (main P) (En_mk (x0,x1,x2,x3,()) (by kernel_rfl) ⟨by kernel_rfl,by kernel_rfl,by kernel_rfl,by kernel_rfl,trivial⟩ h)

end F52
namespace F53
abbrev E:=En 61
abbrev Q:=QB Tryz.prog T0 61
def O (k:Nat):=ob Tryz.f53 (pth k)
def ret (P:PT):EP:=retE T0 61 Tryz.f53 P
abbrev k0:Sk:=[]
def o1:=O 30
def B1 (P:PT):Y k0:=fun H=>
  P (Value.int .i64 0) H
theorem q1 P:Q o1 (ret P) k0 (B1 P):=fun _ _=>by kernel_rfl
abbrev k1:Sk:=[(0,J),(1,.v),(5,J)]
def o3:=O 467
def B3 (P:PT) (N2:Y k1):Y k1:=fun x0 x1 x5 H=>
  N2 x0 x1 (IntKind.i64.wrap (x5+1)) H
theorem q3 P N2:Q o3 (E k1 N2) k1 (B3 P N2):=fun _ _ _ _ _=>by kernel_rfl
def o4:=O 7460
def B4 (P:PT) (N2:Y k1):Y k0:=fun H=>
  P (Value.int .i64 2) H
theorem q4 P N2:Q o4 (ret P) k0 (B4 P N2):=fun _ _=>by kernel_rfl
def o5:=O 1864
def B5 (P:PT) (N2:Y k1):Y k1:=fun x0 x1 x5 H=>
  idxK x1 x5 2 (fun b1 o2=>ldI .i64 H b1 o2 (fun v3=>AC Tryz.prog T0 93 [(Value.int .i64 v3),(Value.int .i64 0),(Value.int .i64 (IntKind.i64.wrap (x0-1)))] H (fun v4 H5=>asB v4 (fun v6=>pif (!v6) (B4 P N2 H5) (idxK x1 x5 2 (fun b7 o8=>ldI .i64 H5 b7 (o8+1) (fun v9=>AC Tryz.prog T0 93 [(Value.int .i64 v9),(Value.int .i64 0),(Value.int .i64 (IntKind.i64.wrap (x0-1)))] H5 (fun v10 H11=>asB v10 (fun v12=>pif (!v12) (B4 P N2 H11) (idxK x1 x5 2 (fun b13 o14=>ldI .i64 H11 b13 o14 (fun v15=>idxK x1 x5 2 (fun b16 o17=>ldI .i64 H11 b16 (o17+1) (fun v18=>pif ((v15:Int)==v18) (B4 P N2 H11) (B3 P N2 x0 x1 x5 H11)))))))))))))))
theorem q5 (P:PT) (N2:Y k1):QD Tryz.prog T0 61 o5 [(0,false),(1,false),(2,false),(3,false),(4,false),(5,false),(6,false),(7,false),(8,false),(9,false),(10,false),(11,false),(12,false),(13,false),(14,false),(15,false),(16,false),(17,false),(18,false),(19,false),(20,false),(21,false),(22,false),(23,false),(24,false),(25,false),(26,false),(27,false),(28,false),(29,false),(30,false),(31,false),(32,false)] (cnd 60 (En 61 k0 (B4 P N2)) (En 61 k1 (B3 P N2))) k1 (B5 P N2):=fun _ _ _ _ _  => by kernel_rfl
def o6:=O 464
def B6 (P:PT) (N2:Y k1):Y k1:=fun x0 x1 x5 H=>
  lenK x1 (fun n1=>pif (decide ((x5:Int)<(n1:Int))) (B5 P N2 x0 x1 x5 H) (B1 P H))
theorem q6 P N2:Q o6 (cnd 25 (E k1 (B5 P N2)) (E k0 (B1 P))) k1 (B6 P N2):=fun _ _ _ _ _=>by kernel_rfl
def L2 (P:PT):Y k1:=fun x0 x1 x5 H=>
  ∃ (I:Y k1) (μ:NTy k1 (AHeap→Nat)),I x0 x1 x5 H∧∀ y0 y1 y5 G,I y0 y1 y5 G→B6 P (fun z0 z1 z5 G'=>I z0 z1 z5 G'∧μ z0 z1 z5 G'<μ y0 y1 y5 G) y0 y1 y5 G
theorem l2 P:LQ k1 (L2 P) (B6 P):=fun ⟨_,_,_,_⟩ _ ⟨I,μ,h0,hI⟩=>⟨apT _ I,apT _ μ,h0,fun ⟨_,_,_,_⟩ _ h=>hI _ _ _ _  h⟩
abbrev k2:Sk:=[(0,J),(1,.v)]
def o7:=O 28
def B7 (P:PT):Y k2:=fun x0 x1 H=>
  L2 P x0 x1 0 H
theorem q7 P:Q o7 (E k1 (L2 P)) k2 (B7 P):=fun _ _ _ _=>by kernel_rfl
def o8:=O 52
def B8 (P:PT):Y k0:=fun H=>
  P (Value.int .i64 2) H
theorem q8 P:Q o8 (ret P) k0 (B8 P):=fun _ _=>by kernel_rfl
def o9:=O 12
def B9 (P:PT):Y k2:=fun x0 x1 H=>
  AC Tryz.prog T0 93 [(Value.int .i64 x0),(Value.int .i64 2),(Value.int .i64 20)] H (fun v1 H2=>asB v1 (fun v3=>pif (!v3) (B8 P H2) (pif ((Int.tmod x0 2:Int) != 0) (B8 P H2) (lenK x1 (fun n4=>pif (((n4:Int):Int) != (IntKind.i64.wrap (Int.tdiv (IntKind.i64.wrap (3*x0)) 2))) (B8 P H2) (B7 P x0 x1 H2))))))
theorem q9 P:Q o9 (cnd 21 (E k0 (B8 P)) (E k2 (B7 P))) k2 (B9 P):=fun _ _ _ _=>by kernel_rfl
def o10:=O 2
def B10 (P:PT):Y k2:=fun x0 x1 H=>
  B9 P x0 x1 H
theorem q10 P:Q o10 (E k2 (B9 P)) k2 (B10 P):=fun _ _ _ _=>by kernel_rfl
def code:Code:=(.seq (R 0 o10) (.seq (.seq (R 1 o9) (.cond (.tmp 21) (.seq (R 2 o8) .ret) .skip)) (.seq (.seq (R 3 o7) (.block 0 (.loop (.seq (.seq (R 4 o6) (.cond (.tmp 25) .skip (.exit 0))) (.seq (.block 1 (.seq (.region 6 ⟨o5⟩ true) (.cond (.tmp 60) (.seq (R 7 o4) .ret) .skip))) (R 5 o3)))))) (.seq (R 8 o1) .ret))))
theorem body:Tryz.f53.body=some code:=by kernel_rfl
theorem main (P:PT):∀ env H,(En 61 k2 (B10 P)) env H→AW Tryz.prog T0 code env H (M (ret P)):=
  (r_seq (b (q10 P)) (r_seq (r_seq (b (q9 P)) (r_cond rfl (r_seq (b (q8 P)) r_ret) r_skip)) (r_seq (r_seq (b (q7 P)) (r_block (rL (l2 P) (fun N2=>(r_seq (r_seq (b (q6 P N2)) (r_cond rfl r_skip (r_exit (fun _ _ h=>h)))) (r_seq (r_block (r_seq (rD T0_ok mixed [(0,false),(1,false),(2,false),(3,false),(4,false),(5,false),(6,false),(7,false),(8,false),(9,false),(10,false),(11,false),(12,false),(13,false),(14,false),(15,false),(16,false),(17,false),(18,false),(19,false),(20,false),(21,false),(22,false),(23,false),(24,false),(25,false),(26,false),(27,false),(28,false),(29,false),(30,false),(31,false),(32,false)] (by kernel_rfl) (q5 P N2)) (r_cond rfl (r_seq (b (q4 P N2)) r_ret) r_skip))) (b (q3 P N2)))))))) (r_seq (b (q1 P)) r_ret))))
theorem ac (P:PT) (x0:Int) (x1:Value) (H:AHeap) (h:B10 P x0 x1 H):AC Tryz.prog T0 53 [(Value.int .i64 x0),x1] H P:=
  r_fn T0_ok (c:=code) (n:=61) Tryz.func53 body (by kernel_rfl) (main P) (En_mk (x0,x1,()) (by kernel_rfl) ⟨by kernel_rfl,by kernel_rfl,trivial⟩ h)

end F53
namespace F54
abbrev E:=En 46
abbrev Q:=QB Tryz.prog T0 46
def O (k:Nat):=ob Tryz.f54 (pth k)
def ret (P:PT):EP:=retE T0 46 Tryz.f54 P
abbrev k0:Sk:=[]
def o1:=O 62
def B1 (P:PT):Y k0:=fun H=>
  P (Value.bool true) H
theorem q1 P:Q o1 (ret P) k0 (B1 P):=fun _ _=>by kernel_rfl
abbrev k1:Sk:=[(0,J),(5,.v),(7,J)]
def o3:=O 979
def B3 (P:PT) (N2:Y k1):Y k1:=fun x0 x5 x7 H=>
  N2 x0 x5 (IntKind.i64.wrap (x7+1)) H
theorem q3 P N2:Q o3 (E k1 N2) k1 (B3 P N2):=fun _ _ _ _ _=>by kernel_rfl
def o4:=O 15652
def B4 (P:PT) (N2:Y k1):Y k0:=fun H=>
  P (Value.bool false) H
theorem q4 P N2:Q o4 (ret P) k0 (B4 P N2):=fun _ _=>by kernel_rfl
def o5:=O 3912
def B5 (P:PT) (N2:Y k1):Y k1:=fun x0 x5 x7 H=>
  idxK x5 x7 1 (fun b1 o2=>ldI .i64 H b1 o2 (fun v3=>pif ((v3:Int) != 3) (B4 P N2 H) (B3 P N2 x0 x5 x7 H)))
theorem q5 P N2:Q o5 (cnd 45 (E k0 (B4 P N2)) (E k1 (B3 P N2))) k1 (B5 P N2):=fun _ _ _ _ _=>by kernel_rfl
def o6:=O 976
def B6 (P:PT) (N2:Y k1):Y k1:=fun x0 x5 x7 H=>
  pif (decide ((x7:Int)<x0)) (B5 P N2 x0 x5 x7 H) (B1 P H)
theorem q6 P N2:Q o6 (cnd 38 (E k1 (B5 P N2)) (E k0 (B1 P))) k1 (B6 P N2):=fun _ _ _ _ _=>by kernel_rfl
def L2 (P:PT):Y k1:=fun x0 x5 x7 H=>
  ∃ (I:Y k1) (μ:NTy k1 (AHeap→Nat)),I x0 x5 x7 H∧∀ y0 y5 y7 G,I y0 y5 y7 G→B6 P (fun z0 z5 z7 G'=>I z0 z5 z7 G'∧μ z0 z5 z7 G'<μ y0 y5 y7 G) y0 y5 y7 G
theorem l2 P:LQ k1 (L2 P) (B6 P):=fun ⟨_,_,_,_⟩ _ ⟨I,μ,h0,hI⟩=>⟨apT _ I,apT _ μ,h0,fun ⟨_,_,_,_⟩ _ h=>hI _ _ _ _  h⟩
abbrev k2:Sk:=[(0,J),(5,.v)]
def o7:=O 60
def B7 (P:PT):Y k2:=fun x0 x5 H=>
  L2 P x0 x5 0 H
theorem q7 P:Q o7 (E k1 (L2 P)) k2 (B7 P):=fun _ _ _ _=>by kernel_rfl
abbrev k3:Sk:=[(0,J),(1,.v),(5,.v),(6,J)]
def o9:=O 467
def B9 (P:PT) (N8:Y k3):Y k3:=fun x0 x1 x5 x6 H=>
  N8 x0 x1 x5 (IntKind.i64.wrap (x6+1)) H
theorem q9 P N8:Q o9 (E k3 N8) k3 (B9 P N8):=fun _ _ _ _ _ _=>by kernel_rfl
def o10:=O 1865
def B10 (P:PT) (N8:Y k3):Y k3:=fun x0 x1 x5 x6 H=>
  idxK x1 x6 2 (fun b1 o2=>ldI .i64 H b1 (o2+1) (fun v3=>idxK x5 v3 1 (fun b4 o5=>ldI .i64 H b4 o5 (fun v6=>idxK x5 v3 1 (fun b7 o8=>stK H b7 o8 [(Value.int .i64 (IntKind.i64.wrap (v6+1)))] (fun H9=>B9 P N8 x0 x1 x5 x6 H9))))))
theorem q10 P N8:Q o10 (E k3 (B9 P N8)) k3 (B10 P N8):=fun _ _ _ _ _ _=>by kernel_rfl
def o11:=O 1864
def B11 (P:PT) (N8:Y k3):Y k3:=fun x0 x1 x5 x6 H=>
  idxK x1 x6 2 (fun b1 o2=>ldI .i64 H b1 o2 (fun v3=>idxK x5 v3 1 (fun b4 o5=>ldI .i64 H b4 o5 (fun v6=>idxK x5 v3 1 (fun b7 o8=>stK H b7 o8 [(Value.int .i64 (IntKind.i64.wrap (v6+1)))] (fun H9=>B10 P N8 x0 x1 x5 x6 H9))))))
theorem q11 P N8:Q o11 (E k3 (B10 P N8)) k3 (B11 P N8):=fun _ _ _ _ _ _=>by kernel_rfl
def o12:=O 464
def B12 (P:PT) (N8:Y k3):Y k3:=fun x0 x1 x5 x6 H=>
  lenK x1 (fun n1=>pif (decide ((x6:Int)<(n1:Int))) (B11 P N8 x0 x1 x5 x6 H) (B7 P x0 x5 H))
theorem q12 P N8:Q o12 (cnd 13 (E k3 (B11 P N8)) (E k2 (B7 P))) k3 (B12 P N8):=fun _ _ _ _ _ _=>by kernel_rfl
def L8 (P:PT):Y k3:=fun x0 x1 x5 x6 H=>
  ∃ (I:Y k3) (μ:NTy k3 (AHeap→Nat)),I x0 x1 x5 x6 H∧∀ y0 y1 y5 y6 G,I y0 y1 y5 y6 G→B12 P (fun z0 z1 z5 z6 G'=>I z0 z1 z5 z6 G'∧μ z0 z1 z5 z6 G'<μ y0 y1 y5 y6 G) y0 y1 y5 y6 G
theorem l8 P:LQ k3 (L8 P) (B12 P):=fun ⟨_,_,_,_,_⟩ _ ⟨I,μ,h0,hI⟩=>⟨apT _ I,apT _ μ,h0,fun ⟨_,_,_,_,_⟩ _ h=>hI _ _ _ _ _  h⟩
abbrev k4:Sk:=[(0,J),(1,.v),(5,.v)]
def o13:=O 28
def B13 (P:PT):Y k4:=fun x0 x1 x5 H=>
  L8 P x0 x1 x5 0 H
theorem q13 P:Q o13 (E k3 (L8 P)) k4 (B13 P):=fun _ _ _ _ _=>by kernel_rfl
abbrev k5:Sk:=[(0,J),(1,.v)]
def o14:=O 6
def B14 (P:PT):Y k5:=fun x0 x1 H=>
  mkR H 8 2 [(Value.int .i64 0)] x0 x0 (fun v2 H1=>B13 P x0 x1 v2 H1)
theorem q14 P:Q o14 (E k4 (B13 P)) k5 (B14 P):=fun _ _ _ _=>by kernel_rfl
def o15:=O 2
def B15 (P:PT):Y k5:=fun x0 x1 H=>
  B14 P x0 x1 H
theorem q15 P:Q o15 (E k5 (B14 P)) k5 (B15 P):=fun _ _ _ _=>by kernel_rfl
def code:Code:=(.seq (R 0 o15) (.seq (R 1 o14) (.seq (.seq (R 2 o13) (.block 0 (.loop (.seq (.seq (R 3 o12) (.cond (.tmp 13) .skip (.exit 0))) (.seq (.block 1 (.seq (R 5 o11) (R 6 o10))) (R 4 o9)))))) (.seq (.seq (R 7 o7) (.block 2 (.loop (.seq (.seq (R 8 o6) (.cond (.tmp 38) .skip (.exit 2))) (.seq (.block 3 (.seq (R 10 o5) (.cond (.tmp 45) (.seq (R 11 o4) .ret) .skip))) (R 9 o3)))))) (.seq (R 12 o1) .ret)))))
theorem body:Tryz.f54.body=some code:=by kernel_rfl
theorem main (P:PT):∀ env H,(En 46 k5 (B15 P)) env H→AW Tryz.prog T0 code env H (M (ret P)):=
  (r_seq (b (q15 P)) (r_seq (b (q14 P)) (r_seq (r_seq (b (q13 P)) (r_block (rL (l8 P) (fun N8=>(r_seq (r_seq (b (q12 P N8)) (r_cond rfl r_skip (r_exit (fun _ _ h=>h)))) (r_seq (r_block (r_seq (b (q11 P N8)) (b (q10 P N8)))) (b (q9 P N8)))))))) (r_seq (r_seq (b (q7 P)) (r_block (rL (l2 P) (fun N2=>(r_seq (r_seq (b (q6 P N2)) (r_cond rfl r_skip (r_exit (fun _ _ h=>h)))) (r_seq (r_block (r_seq (b (q5 P N2)) (r_cond rfl (r_seq (b (q4 P N2)) r_ret) r_skip))) (b (q3 P N2)))))))) (r_seq (b (q1 P)) r_ret)))))
theorem ac (P:PT) (x0:Int) (x1:Value) (H:AHeap) (h:B15 P x0 x1 H):AC Tryz.prog T0 54 [(Value.int .i64 x0),x1] H P:=
  r_fn T0_ok (c:=code) (n:=46) Tryz.func54 body (by kernel_rfl) (main P) (En_mk (x0,x1,()) (by kernel_rfl) ⟨by kernel_rfl,by kernel_rfl,trivial⟩ h)

end F54
namespace F55
abbrev E:=En 24
abbrev Q:=QB Tryz.prog T0 24
def O (k:Nat):=ob Tryz.f55 (pth k)
def ret (P:PT):EP:=retE T0 24 Tryz.f55 P
abbrev k0:Sk:=[(2,.x),(3,.x)]
def o1:=O 6
def B1 (P:PT):Y k0:=fun x2 x3 H=>
  ldI .i64 H x2 0 (fun v1=>ldI .i64 H x3 0 (fun v2=>pif (decide ((v1:Int)<v2)) (P (Value.bool true) H) (ldI .i64 H x2 0 (fun v3=>ldI .i64 H x3 0 (fun v4=>pif ((v3:Int)==v4) (ldI .i64 H x2 1 (fun v5=>ldI .i64 H x3 1 (fun v6=>P (Value.bool (decide ((v5:Int)<v6))) H))) (P (Value.bool false) H))))))
theorem q1 P:Q o1 (ret P) k0 (B1 P):=fun _ _ _ _=>by kernel_rfl
abbrev k1:Sk:=[(0,.g [.i,.i]),(1,.g [.i,.i])]
def o2:=O 2
def B2 (P:PT):Y k1:=fun x0a x0b x1a x1b H=>
  newK H [(Value.int .i64 x0a),(Value.int .i64 x0b)] 84 (fun b1 H2=>newK H2 [(Value.int .i64 x1a),(Value.int .i64 x1b)] 84 (fun b3 H4=>B1 P b1 b3 H4))
theorem q2 P:Q o2 (E k0 (B1 P)) k1 (B2 P):=fun _ _ _ _ _ _=>by kernel_rfl
def code:Code:=(.seq (R 0 o2) (.seq (R 1 o1) .ret))
theorem body:Tryz.f55.body=some code:=by kernel_rfl
theorem main (P:PT):∀ env H,(En 24 k1 (B2 P)) env H→AW Tryz.prog T0 code env H (M (ret P)):=
  (r_seq (b (q2 P)) (r_seq (b (q1 P)) r_ret))
theorem ac (P:PT) (x0a x0b x1a x1b:Int) (H:AHeap) (h:B2 P x0a x0b x1a x1b H):AC Tryz.prog T0 55 [(Value.agg ⟨[(Value.int .i64 x0a),(Value.int .i64 x0b)]⟩),(Value.agg ⟨[(Value.int .i64 x1a),(Value.int .i64 x1b)]⟩)] H P:=
  r_fn T0_ok (c:=code) (n:=24) Tryz.func55 body (by kernel_rfl) (main P) (En_mk (x0a,x0b,x1a,x1b,()) (by kernel_rfl) ⟨by kernel_rfl,by kernel_rfl,trivial⟩ h)

end F55
namespace F56
abbrev E:=En 12
abbrev Q:=QB Tryz.prog T0 12
def O (k:Nat):=ob Tryz.f56 (pth k)
def ret (P:PT):EP:=retE T0 12 Tryz.f56 P
abbrev k0:Sk:=[(0,.v),(1,.v)]
def o1:=O 6
def B1 (P:PT):Y k0:=fun x0 x1 H=>
  lenK x1 (fun n1=>AC Tryz.prog T0 27 [x0,(Value.int .i64 (n1:Int))] H (fun v2 H3=>asI .i64 v2 (fun v4=>idxK x1 v4 1 (fun b5 o6=>ldI .i64 H3 b5 o6 (fun v7=>P (Value.int .i64 v7) H3)))))
theorem q1 P:Q o1 (ret P) k0 (B1 P):=fun _ _ _ _=>by kernel_rfl
def o2:=O 2
def B2 (P:PT):Y k0:=fun x0 x1 H=>
  B1 P x0 x1 H
theorem q2 P:Q o2 (E k0 (B1 P)) k0 (B2 P):=fun _ _ _ _=>by kernel_rfl
def code:Code:=(.seq (R 0 o2) (.seq (R 1 o1) .ret))
theorem body:Tryz.f56.body=some code:=by kernel_rfl
theorem main (P:PT):∀ env H,(En 12 k0 (B2 P)) env H→AW Tryz.prog T0 code env H (M (ret P)):=
  (r_seq (b (q2 P)) (r_seq (b (q1 P)) r_ret))
theorem ac (P:PT) (x0 x1:Value) (H:AHeap) (h:B2 P x0 x1 H):AC Tryz.prog T0 56 [x0,x1] H P:=
  r_fn T0_ok (c:=code) (n:=12) Tryz.func56 body (by kernel_rfl) (main P) (En_mk (x0,x1,()) (by kernel_rfl) ⟨by kernel_rfl,by kernel_rfl,trivial⟩ h)

end F56
namespace F57
abbrev E:=En 33
abbrev Q:=QB Tryz.prog T0 33
def O (k:Nat):=ob Tryz.f57 (pth k)
def ret (P:PT):EP:=retE T0 33 Tryz.f57 P
abbrev k0:Sk:=[]
def o1:=O 14
def B1 (P:PT):Y k0:=fun H=>
  P (Value.bool true) H
theorem q1 P:Q o1 (ret P) k0 (B1 P):=fun _ _=>by kernel_rfl
abbrev k1:Sk:=[(0,.v),(1,J),(7,.v),(8,J),(9,J)]
def o3:=O 423
def B3 (P:PT) (N2:Y k1):Y k1:=fun x0 x1 x7 x8 x9 H=>
  N2 x0 x1 x7 x8 (IntKind.i64.wrap (x9+1)) H
theorem q3 P N2:Q o3 (E k1 N2) k1 (B3 P N2):=fun _ _ _ _ _ _ _=>by kernel_rfl
def o4:=O 13516
def B4 (P:PT) (N2:Y k1):Y k0:=fun H=>
  P (Value.bool false) H
theorem q4 P N2:Q o4 (ret P) k0 (B4 P N2):=fun _ _=>by kernel_rfl
abbrev k2:Sk:=[(0,.v),(1,J),(5,J),(6,J),(7,.v),(8,J),(9,J)]
def o5:=O 3378
def B5 (P:PT) (N2:Y k1):Y k2:=fun x0 x1 x5 x6 x7 x8 x9 H=>
  AC Tryz.prog T0 94 [(Value.int .i64 x6),(Value.int .i64 0),(Value.int .i64 (IntKind.i64.wrap (x1-1)))] H (fun v1 H2=>asB v1 (fun v3=>pif (!v3) (B4 P N2 H2) (pif (decide ((x5:Int)>0)) (idxK x0 (IntKind.i64.wrap (x5-1)) 1 (fun b4 o5=>ldI .i64 H2 b4 o5 (fun v6=>pif (decide ((x6:Int)≤v6)) (B4 P N2 H2) (B3 P N2 x0 x1 x7 x8 x9 H2)))) (B3 P N2 x0 x1 x7 x8 x9 H2))))
theorem q5 P N2:Q o5 (cnd 31 (E k0 (B4 P N2)) (E k1 (B3 P N2))) k2 (B5 P N2):=fun _ _ _ _ _ _ _ _ _=>by kernel_rfl
def o6:=O 1688
def B6 (P:PT) (N2:Y k1):Y k1:=fun x0 x1 x7 x8 x9 H=>
  idxK x7 x9 1 (fun b1 o2=>ldI .i64 H b1 o2 (fun v3=>B5 P N2 x0 x1 x9 v3 x7 x8 x9 H))
theorem q6 P N2:Q o6 (E k2 (B5 P N2)) k1 (B6 P N2):=fun _ _ _ _ _ _ _=>by kernel_rfl
def o7:=O 104
def B7 (P:PT) (N2:Y k1):Y k1:=fun x0 x1 x7 x8 x9 H=>
  pif (decide ((x9:Int)<x8)) (B6 P N2 x0 x1 x7 x8 x9 H) (B1 P H)
theorem q7 P N2:Q o7 (cnd 10 (E k1 (B6 P N2)) (E k0 (B1 P))) k1 (B7 P N2):=fun _ _ _ _ _ _ _=>by kernel_rfl
def L2 (P:PT):Y k1:=fun x0 x1 x7 x8 x9 H=>
  ∃ (I:Y k1) (μ:NTy k1 (AHeap→Nat)),I x0 x1 x7 x8 x9 H∧∀ y0 y1 y7 y8 y9 G,I y0 y1 y7 y8 y9 G→B7 P (fun z0 z1 z7 z8 z9 G'=>I z0 z1 z7 z8 z9 G'∧μ z0 z1 z7 z8 z9 G'<μ y0 y1 y7 y8 y9 G) y0 y1 y7 y8 y9 G
theorem l2 P:LQ k1 (L2 P) (B7 P):=fun ⟨_,_,_,_,_,_⟩ _ ⟨I,μ,h0,hI⟩=>⟨apT _ I,apT _ μ,h0,fun ⟨_,_,_,_,_,_⟩ _ h=>hI _ _ _ _ _ _  h⟩
abbrev k3:Sk:=[(0,.v),(1,J)]
def o8:=O 12
def B8 (P:PT):Y k3:=fun x0 x1 H=>
  lenK x0 (fun n1=>L2 P x0 x1 x0 (n1:Int) 0 H)
theorem q8 P:Q o8 (E k1 (L2 P)) k3 (B8 P):=fun _ _ _ _=>by kernel_rfl
def o9:=O 2
def B9 (P:PT):Y k3:=fun x0 x1 H=>
  B8 P x0 x1 H
theorem q9 P:Q o9 (E k3 (B8 P)) k3 (B9 P):=fun _ _ _ _=>by kernel_rfl
def code:Code:=(.seq (R 0 o9) (.seq (.seq (R 1 o8) (.block 0 (.loop (.seq (R 2 o7) (.seq (.cond (.tmp 10) .skip (.exit 0)) (.seq (.block 1 (.seq (R 3 o6) (.seq (R 4 o5) (.cond (.tmp 31) (.seq (R 5 o4) .ret) .skip)))) (R 6 o3))))))) (.seq (R 7 o1) .ret)))
theorem body:Tryz.f57.body=some code:=by kernel_rfl
theorem main (P:PT):∀ env H,(En 33 k3 (B9 P)) env H→AW Tryz.prog T0 code env H (M (ret P)):=
  (r_seq (b (q9 P)) (r_seq (r_seq (b (q8 P)) (r_block (rL (l2 P) (fun N2=>(r_seq (b (q7 P N2)) (r_seq (r_cond rfl r_skip (r_exit (fun _ _ h=>h))) (r_seq (r_block (r_seq (b (q6 P N2)) (r_seq (b (q5 P N2)) (r_cond rfl (r_seq (b (q4 P N2)) r_ret) r_skip)))) (b (q3 P N2))))))))) (r_seq (b (q1 P)) r_ret)))
theorem ac (P:PT) (x0:Value) (x1:Int) (H:AHeap) (h:B9 P x0 x1 H):AC Tryz.prog T0 57 [x0,(Value.int .i64 x1)] H P:=
  r_fn T0_ok (c:=code) (n:=33) Tryz.func57 body (by kernel_rfl) (main P) (En_mk (x0,x1,()) (by kernel_rfl) ⟨by kernel_rfl,by kernel_rfl,trivial⟩ h)

end F57
namespace F58
abbrev E:=En 5
abbrev Q:=QB Tryz.prog T0 5
def O (k:Nat):=ob Tryz.f58 (pth k)
def ret (P:PT):EP:=retE T0 5 Tryz.f58 P
abbrev k0:Sk:=[(0,.v)]
def o1:=O 6
def B1 (P:PT):Y k0:=fun x0 H=>
  lenK x0 (fun n1=>P (Value.int .i64 (n1:Int)) H)
theorem q1 P:Q o1 (ret P) k0 (B1 P):=fun _ _ _=>by kernel_rfl
def o2:=O 2
def B2 (P:PT):Y k0:=fun x0 H=>
  B1 P x0 H
theorem q2 P:Q o2 (E k0 (B1 P)) k0 (B2 P):=fun _ _ _=>by kernel_rfl
def code:Code:=(.seq (R 0 o2) (.seq (R 1 o1) .ret))
theorem body:Tryz.f58.body=some code:=by kernel_rfl
theorem main (P:PT):∀ env H,(En 5 k0 (B2 P)) env H→AW Tryz.prog T0 code env H (M (ret P)):=
  (r_seq (b (q2 P)) (r_seq (b (q1 P)) r_ret))
theorem ac (P:PT) (x0:Value) (H:AHeap) (h:B2 P x0 H):AC Tryz.prog T0 58 [x0] H P:=
  r_fn T0_ok (c:=code) (n:=5) Tryz.func58 body (by kernel_rfl) (main P) (En_mk (x0,()) (by kernel_rfl) ⟨by kernel_rfl,trivial⟩ h)

end F58
namespace F59
abbrev E:=En 5
abbrev Q:=QB Tryz.prog T0 5
def O (k:Nat):=ob Tryz.f59 (pth k)
def ret (P:PT):EP:=retE T0 5 Tryz.f59 P
abbrev k0:Sk:=[(0,.v)]
def o1:=O 6
def B1 (P:PT):Y k0:=fun x0 H=>
  lenK x0 (fun n1=>P (Value.int .i64 (n1:Int)) H)
theorem q1 P:Q o1 (ret P) k0 (B1 P):=fun _ _ _=>by kernel_rfl
def o2:=O 2
def B2 (P:PT):Y k0:=fun x0 H=>
  B1 P x0 H
theorem q2 P:Q o2 (E k0 (B1 P)) k0 (B2 P):=fun _ _ _=>by kernel_rfl
def code:Code:=(.seq (R 0 o2) (.seq (R 1 o1) .ret))
theorem body:Tryz.f59.body=some code:=by kernel_rfl
theorem main (P:PT):∀ env H,(En 5 k0 (B2 P)) env H→AW Tryz.prog T0 code env H (M (ret P)):=
  (r_seq (b (q2 P)) (r_seq (b (q1 P)) r_ret))
theorem ac (P:PT) (x0:Value) (H:AHeap) (h:B2 P x0 H):AC Tryz.prog T0 59 [x0] H P:=
  r_fn T0_ok (c:=code) (n:=5) Tryz.func59 body (by kernel_rfl) (main P) (En_mk (x0,()) (by kernel_rfl) ⟨by kernel_rfl,trivial⟩ h)

end F59
namespace F60
abbrev E:=En 5
abbrev Q:=QB Tryz.prog T0 5
def O (k:Nat):=ob Tryz.f60 (pth k)
def ret (P:PT):EP:=retE T0 5 Tryz.f60 P
abbrev k0:Sk:=[(0,.i .u64)]
def o1:=O 6
def B1 (P:PT):Y k0:=fun x0 H=>
  AC Tryz.prog T0 95 [(Value.int .u64 x0)] H (fun v1 H2=>asI .i64 v1 (fun v3=>P (Value.int .i64 v3) H2))
theorem q1 P:Q o1 (ret P) k0 (B1 P):=fun _ _ _=>by kernel_rfl
def o2:=O 2
def B2 (P:PT):Y k0:=fun x0 H=>
  B1 P x0 H
theorem q2 P:Q o2 (E k0 (B1 P)) k0 (B2 P):=fun _ _ _=>by kernel_rfl
def code:Code:=(.seq (R 0 o2) (.seq (R 1 o1) .ret))
theorem body:Tryz.f60.body=some code:=by kernel_rfl
theorem main (P:PT):∀ env H,(En 5 k0 (B2 P)) env H→AW Tryz.prog T0 code env H (M (ret P)):=
  (r_seq (b (q2 P)) (r_seq (b (q1 P)) r_ret))
theorem ac (P:PT) (x0:Int) (H:AHeap) (h:B2 P x0 H):AC Tryz.prog T0 60 [(Value.int .u64 x0)] H P:=
  r_fn T0_ok (c:=code) (n:=5) Tryz.func60 body (by kernel_rfl) (main P) (En_mk (x0,()) (by kernel_rfl) ⟨by kernel_rfl,trivial⟩ h)

end F60
namespace F61
abbrev E:=En 81
abbrev Q:=QB Tryz.prog T0 81
def O (k:Nat):=ob Tryz.f61 (pth k)
def ret (P:PT):EP:=retE T0 81 Tryz.f61 P
abbrev k0:Sk:=[(5,.v)]
def o1:=O 30
def B1 (P:PT):Y k0:=fun x5 H=>
  P x5 H
theorem q1 P:Q o1 (ret P) k0 (B1 P):=fun _ _ _=>by kernel_rfl
abbrev k1:Sk:=[(1,.i .u64),(2,.x),(5,.v),(15,.v),(16,J),(17,J)]
def o3:=O 935
def B3 (P:PT) (N2:Y k1):Y k1:=fun x1 x2 x5 x15 x16 x17 H=>
  N2 x1 x2 x5 x15 x16 (IntKind.i64.wrap (x17+1)) H
theorem q3 P N2:Q o3 (E k1 N2) k1 (B3 P N2):=fun _ _ _ _ _ _ _ _=>by kernel_rfl
abbrev k2:Sk:=[(1,.i .u64),(2,.x),(5,.v),(8,.i .u64),(15,.v),(16,J),(17,J)]
def o4:=O 29903
def B4 (P:PT) (N2:Y k1):Y k2:=fun x1 x2 x5 x8 x15 x16 x17 H=>
  newK H [(Value.int .u64 x8)] 45 (fun b1 H2=>apK T0 45 H2 x5 (Value.slice (some ⟨b1,0,none⟩) 1 (1+1)) (fun v3 H4=>B3 P N2 x1 x2 v3 x15 x16 x17 H4))
theorem q4 P N2:Q o4 (E k1 (B3 P N2)) k2 (B4 P N2):=fun _ _ _ _ _ _ _ _ _=>by kernel_rfl
abbrev k3:Sk:=[(1,.i .u64),(2,.x),(5,.v),(8,.i .u64),(9,.v),(15,.v),(16,J),(17,J)]
def o6:=O 956883
def B6 (P:PT) (N2:Y k1) (N5:Y k3):Y k3:=fun x1 x2 x5 x8 x9 x15 x16 x17 H=>
  sliceK H 2 x9 (some (Value.int .i64 1)) none 1 (fun v1=>N5 x1 x2 x5 x8 v1 x15 x16 x17 H)
theorem q6 P N2 N5:Q o6 (E k3 N5) k3 (B6 P N2 N5):=fun _ _ _ _ _ _ _ _ _ _=>by kernel_rfl
abbrev k4:Sk:=[(1,.i .u64),(2,.x),(5,.v),(8,.i .u64),(9,.v),(15,.v),(16,J),(17,J),(44,.g [.i,.i]),(45,J)]
def o8:=O 122480935
def B8 (P:PT) (N2:Y k1) (N5:Y k3) (N7:Y k4):Y k4:=fun x1 x2 x5 x8 x9 x15 x16 x17 x44a x44b x45 H=>
  N7 x1 x2 x5 x8 x9 x15 x16 x17 x44a x44b (IntKind.i64.wrap (x45+1)) H
theorem q8 P N2 N5 N7:Q o8 (E k4 N7) k4 (B8 P N2 N5 N7):=fun _ _ _ _ _ _ _ _ _ _ _ _ _=>by kernel_rfl
abbrev k5:Sk:=[(1,.i .u64),(2,.x),(5,.v),(8,.i .u64),(9,.v),(15,.v),(16,J),(17,J),(44,.g [.i,.i]),(45,J),(50,.v),(51,J),(52,J)]
def o10:=O 31355119207
def B10 (P:PT) (N2:Y k1) (N5:Y k3) (N7:Y k4) (N9:Y k5):Y k5:=fun x1 x2 x5 x8 x9 x15 x16 x17 x44a x44b x45 x50 x51 x52 H=>
  N9 x1 x2 x5 x8 x9 x15 x16 x17 x44a x44b x45 x50 x51 (IntKind.i64.wrap (x52+1)) H
theorem q10 P N2 N5 N7 N9:Q o10 (E k5 N9) k5 (B10 P N2 N5 N7 N9):=fun _ _ _ _ _ _ _ _ _ _ _ _ _ _ _ _=>by kernel_rfl
abbrev k6:Sk:=[(1,.i .u64),(2,.x),(5,.v),(8,.i .u64),(9,.v),(13,J),(15,.v),(16,J),(17,J),(44,.g [.i,.i]),(45,J),(50,.v),(51,J),(52,J)]
def o11:=O 1003363814605
def B11 (P:PT) (N2:Y k1) (N5:Y k3) (N7:Y k4) (N9:Y k5):Y k6:=fun x1 x2 x5 x8 x9 x13 x15 x16 x17 x44a x44b x45 x50 x51 x52 H=>
  newK H [(Value.int .i64 x13)] 2 (fun b1 H2=>apK T0 2 H2 x9 (Value.slice (some ⟨b1,0,none⟩) 1 (1+1)) (fun v3 H4=>B10 P N2 N5 N7 N9 x1 x2 x5 x8 v3 x15 x16 x17 x44a x44b x45 x50 x51 x52 H4))
theorem q11 P N2 N5 N7 N9:Q o11 (E k5 (B10 P N2 N5 N7 N9)) k6 (B11 P N2 N5 N7 N9):=fun _ _ _ _ _ _ _ _ _ _ _ _ _ _ _ _ _=>by kernel_rfl
def o12:=O 1003363814604
def B12 (P:PT) (N2:Y k1) (N5:Y k3) (N7:Y k4) (N9:Y k5):Y k6:=fun x1 x2 x5 x8 x9 x13 x15 x16 x17 x44a x44b x45 x50 x51 x52 H=>
  ((0:Int)≤x13)∧(B11 P N2 N5 N7 N9 x1 x2 x5 (IntKind.u64.wrap (BitVec.ofInt 64 x8|||BitVec.ofInt 64 (IntKind.u64.wrap (1*2^(min (Int.toNat x13) 64)))).toNat) x9 x13 x15 x16 x17 x44a x44b x45 x50 x51 x52 H)
theorem q12 P N2 N5 N7 N9:Q o12 (E k6 (B11 P N2 N5 N7 N9)) k6 (B12 P N2 N5 N7 N9):=fun _ _ _ _ _ _ _ _ _ _ _ _ _ _ _ _ _=>by kernel_rfl
def o13:=O 250840953650
def B13 (P:PT) (N2:Y k1) (N5:Y k3) (N7:Y k4) (N9:Y k5):Y k6:=fun x1 x2 x5 x8 x9 x13 x15 x16 x17 x44a x44b x45 x50 x51 x52 H=>
  AC Tryz.prog T0 42 [(Value.int .u64 x1),(Value.int .i64 x13)] H (fun v1 H2=>asB v1 (fun v3=>pif v3 (AC Tryz.prog T0 42 [(Value.int .u64 x8),(Value.int .i64 x13)] H2 (fun v4 H5=>asB v4 (fun v6=>pif (!v6) (B12 P N2 N5 N7 N9 x1 x2 x5 x8 x9 x13 x15 x16 x17 x44a x44b x45 x50 x51 x52 H5) (B10 P N2 N5 N7 N9 x1 x2 x5 x8 x9 x15 x16 x17 x44a x44b x45 x50 x51 x52 H5)))) (B10 P N2 N5 N7 N9 x1 x2 x5 x8 x9 x15 x16 x17 x44a x44b x45 x50 x51 x52 H2)))
theorem q13 P N2 N5 N7 N9:Q o13 (cnd 64 (E k6 (B12 P N2 N5 N7 N9)) (E k5 (B10 P N2 N5 N7 N9))) k6 (B13 P N2 N5 N7 N9):=fun _ _ _ _ _ _ _ _ _ _ _ _ _ _ _ _ _=>by kernel_rfl
def o14:=O 125420476824
def B14 (P:PT) (N2:Y k1) (N5:Y k3) (N7:Y k4) (N9:Y k5):Y k5:=fun x1 x2 x5 x8 x9 x15 x16 x17 x44a x44b x45 x50 x51 x52 H=>
  idxK x50 x52 1 (fun b1 o2=>ldI .i64 H b1 o2 (fun v3=>B13 P N2 N5 N7 N9 x1 x2 x5 x8 x9 v3 x15 x16 x17 x44a x44b x45 x50 x51 x52 H))
theorem q14 P N2 N5 N7 N9:Q o14 (E k6 (B13 P N2 N5 N7 N9)) k5 (B14 P N2 N5 N7 N9):=fun _ _ _ _ _ _ _ _ _ _ _ _ _ _ _ _=>by kernel_rfl
def o15:=O 7838779800
def B15 (P:PT) (N2:Y k1) (N5:Y k3) (N7:Y k4) (N9:Y k5):Y k5:=fun x1 x2 x5 x8 x9 x15 x16 x17 x44a x44b x45 x50 x51 x52 H=>
  pif (decide ((x52:Int)<x51)) (B14 P N2 N5 N7 N9 x1 x2 x5 x8 x9 x15 x16 x17 x44a x44b x45 x50 x51 x52 H) (B8 P N2 N5 N7 x1 x2 x5 x8 x9 x15 x16 x17 x44a x44b x45 H)
theorem q15 P N2 N5 N7 N9:Q o15 (cnd 53 (E k5 (B14 P N2 N5 N7 N9)) (E k4 (B8 P N2 N5 N7))) k5 (B15 P N2 N5 N7 N9):=fun _ _ _ _ _ _ _ _ _ _ _ _ _ _ _ _=>by kernel_rfl
def L9 (P:PT) (N2:Y k1) (N5:Y k3) (N7:Y k4):Y k5:=fun x1 x2 x5 x8 x9 x15 x16 x17 x44a x44b x45 x50 x51 x52 H=>
  ∃ (I:Y k5) (μ:NTy k5 (AHeap→Nat)),I x1 x2 x5 x8 x9 x15 x16 x17 x44a x44b x45 x50 x51 x52 H∧∀ y1 y2 y5 y8 y9 y15 y16 y17 y44a y44b y45 y50 y51 y52 G,I y1 y2 y5 y8 y9 y15 y16 y17 y44a y44b y45 y50 y51 y52 G→B15 P N2 N5 N7 (fun z1 z2 z5 z8 z9 z15 z16 z17 z44a z44b z45 z50 z51 z52 G'=>I z1 z2 z5 z8 z9 z15 z16 z17 z44a z44b z45 z50 z51 z52 G'∧μ z1 z2 z5 z8 z9 z15 z16 z17 z44a z44b z45 z50 z51 z52 G'<μ y1 y2 y5 y8 y9 y15 y16 y17 y44a y44b y45 y50 y51 y52 G) y1 y2 y5 y8 y9 y15 y16 y17 y44a y44b y45 y50 y51 y52 G
theorem l9 P N2 N5 N7:LQ k5 (L9 P N2 N5 N7) (B15 P N2 N5 N7):=fun ⟨_,_,_,_,_,_,_,_,_,_,_,_,_,_,_⟩ _ ⟨I,μ,h0,hI⟩=>⟨apT _ I,apT _ μ,h0,fun ⟨_,_,_,_,_,_,_,_,_,_,_,_,_,_,_⟩ _ h=>hI _ _ _ _ _ _ _ _ _ _ _ _ _ _ _  h⟩
abbrev k7:Sk:=[(1,.i .u64),(2,.x),(5,.v),(8,.i .u64),(9,.v),(11,J),(15,.v),(16,J),(17,J),(44,.g [.i,.i]),(45,J)]
def o16:=O 979847474
def B16 (P:PT) (N2:Y k1) (N5:Y k3) (N7:Y k4):Y k7:=fun x1 x2 x5 x8 x9 x11 x15 x16 x17 x44a x44b x45 H=>
  ldI .i64 H x2 0 (fun v1=>ld1 H x2 1 (fun v2=>AC Tryz.prog T0 63 [(Value.agg ⟨[(Value.int .i64 v1),v2]⟩),(Value.int .i64 x11)] H (fun v3 H4=>lenK v3 (fun n6=>L9 P N2 N5 N7 x1 x2 x5 x8 x9 x15 x16 x17 x44a x44b x45 v3 (n6:Int) 0 H4))))
theorem q16 P N2 N5 N7:Q o16 (E k5 (L9 P N2 N5 N7)) k7 (B16 P N2 N5 N7):=fun _ _ _ _ _ _ _ _ _ _ _ _ _ _=>by kernel_rfl
def o17:=O 489923736
def B17 (P:PT) (N2:Y k1) (N5:Y k3) (N7:Y k4):Y k4:=fun x1 x2 x5 x8 x9 x15 x16 x17 x44a x44b x45 H=>
  bndK x45 2 (atK [(Value.int .i64 x44a),(Value.int .i64 x44b)] (Int.toNat x45*1) (fun v1=>asI .i64 v1 (fun v2=>B16 P N2 N5 N7 x1 x2 x5 x8 x9 v2 x15 x16 x17 x44a x44b x45 H)))
theorem q17 P N2 N5 N7:Q o17 (E k7 (B16 P N2 N5 N7)) k4 (B17 P N2 N5 N7):=fun _ _ _ _ _ _ _ _ _ _ _ _ _=>by kernel_rfl
def o18:=O 30620232
def B18 (P:PT) (N2:Y k1) (N5:Y k3) (N7:Y k4):Y k4:=fun x1 x2 x5 x8 x9 x15 x16 x17 x44a x44b x45 H=>
  pif (decide ((x45:Int)<2)) (B17 P N2 N5 N7 x1 x2 x5 x8 x9 x15 x16 x17 x44a x44b x45 H) (B6 P N2 N5 x1 x2 x5 x8 x9 x15 x16 x17 H)
theorem q18 P N2 N5 N7:Q o18 (cnd 46 (E k4 (B17 P N2 N5 N7)) (E k3 (B6 P N2 N5))) k4 (B18 P N2 N5 N7):=fun _ _ _ _ _ _ _ _ _ _ _ _ _=>by kernel_rfl
def L7 (P:PT) (N2:Y k1) (N5:Y k3):Y k4:=fun x1 x2 x5 x8 x9 x15 x16 x17 x44a x44b x45 H=>
  ∃ (I:Y k4) (μ:NTy k4 (AHeap→Nat)),I x1 x2 x5 x8 x9 x15 x16 x17 x44a x44b x45 H∧∀ y1 y2 y5 y8 y9 y15 y16 y17 y44a y44b y45 G,I y1 y2 y5 y8 y9 y15 y16 y17 y44a y44b y45 G→B18 P N2 N5 (fun z1 z2 z5 z8 z9 z15 z16 z17 z44a z44b z45 G'=>I z1 z2 z5 z8 z9 z15 z16 z17 z44a z44b z45 G'∧μ z1 z2 z5 z8 z9 z15 z16 z17 z44a z44b z45 G'<μ y1 y2 y5 y8 y9 y15 y16 y17 y44a y44b y45 G) y1 y2 y5 y8 y9 y15 y16 y17 y44a y44b y45 G
theorem l7 P N2 N5:LQ k4 (L7 P N2 N5) (B18 P N2 N5):=fun ⟨_,_,_,_,_,_,_,_,_,_,_,_⟩ _ ⟨I,μ,h0,hI⟩=>⟨apT _ I,apT _ μ,h0,fun ⟨_,_,_,_,_,_,_,_,_,_,_,_⟩ _ h=>hI _ _ _ _ _ _ _ _ _ _ _ _  h⟩
def o19:=O 3827528
def B19 (P:PT) (N2:Y k1) (N5:Y k3):Y k3:=fun x1 x2 x5 x8 x9 x15 x16 x17 H=>
  ld1 H x2 1 (fun v1=>idxK x9 0 1 (fun b2 o3=>ldI .i64 H b2 o3 (fun v4=>idxK v1 v4 2 (fun b5 o6=>ldI .i64 H b5 o6 (fun v7=>ldI .i64 H b5 (o6+1) (fun v8=>L7 P N2 N5 x1 x2 x5 x8 x9 x15 x16 x17 v7 v8 0 H))))))
theorem q19 (P:PT) (N2:Y k1) (N5:Y k3):QD Tryz.prog T0 81 o19 [(0,false),(1,false),(2,false),(3,false),(4,false),(5,false),(6,false),(7,false)] (En 81 k4 (L7 P N2 N5)) k3 (B19 P N2 N5):=fun _ _ _ _ _ _ _ _ _ _  => by kernel_rfl
def o20:=O 956880
def B20 (P:PT) (N2:Y k1) (N5:Y k3):Y k3:=fun x1 x2 x5 x8 x9 x15 x16 x17 H=>
  lenK x9 (fun n1=>pif (decide (((n1:Int):Int)>0)) (B19 P N2 N5 x1 x2 x5 x8 x9 x15 x16 x17 H) (B4 P N2 x1 x2 x5 x8 x15 x16 x17 H))
theorem q20 P N2 N5:Q o20 (cnd 35 (E k3 (B19 P N2 N5)) (E k2 (B4 P N2))) k3 (B20 P N2 N5):=fun _ _ _ _ _ _ _ _ _ _=>by kernel_rfl
def L5 (P:PT) (N2:Y k1):Y k3:=fun x1 x2 x5 x8 x9 x15 x16 x17 H=>
  ∃ (I:Y k3) (μ:NTy k3 (AHeap→Nat)),I x1 x2 x5 x8 x9 x15 x16 x17 H∧∀ y1 y2 y5 y8 y9 y15 y16 y17 G,I y1 y2 y5 y8 y9 y15 y16 y17 G→B20 P N2 (fun z1 z2 z5 z8 z9 z15 z16 z17 G'=>I z1 z2 z5 z8 z9 z15 z16 z17 G'∧μ z1 z2 z5 z8 z9 z15 z16 z17 G'<μ y1 y2 y5 y8 y9 y15 y16 y17 G) y1 y2 y5 y8 y9 y15 y16 y17 G
theorem l5 P N2:LQ k3 (L5 P N2) (B20 P N2):=fun ⟨_,_,_,_,_,_,_,_,_⟩ _ ⟨I,μ,h0,hI⟩=>⟨apT _ I,apT _ μ,h0,fun ⟨_,_,_,_,_,_,_,_,_⟩ _ h=>hI _ _ _ _ _ _ _ _ _  h⟩
abbrev k8:Sk:=[(1,.i .u64),(2,.x),(5,.v),(7,.x),(8,.i .u64),(15,.v),(16,J),(17,J)]
def o21:=O 59804
def B21 (P:PT) (N2:Y k1):Y k8:=fun x1 x2 x5 x7 x8 x15 x16 x17 H=>
  ldI .i64 H x7 0 (fun v1=>newK H [(Value.int .i64 v1)] 2 (fun b2 H3=>L5 P N2 x1 x2 x5 x8 (Value.slice (some ⟨b2,0,none⟩) 1 (1+1)) x15 x16 x17 H3))
theorem q21 P N2:Q o21 (E k3 (L5 P N2)) k8 (B21 P N2):=fun _ _ _ _ _ _ _ _ _ _=>by kernel_rfl
abbrev k9:Sk:=[(1,.i .u64),(2,.x),(5,.v),(7,.x),(15,.v),(16,J),(17,J)]
def o22:=O 14950
def B22 (P:PT) (N2:Y k1):Y k9:=fun x1 x2 x5 x7 x15 x16 x17 H=>
  ldI .i64 H x7 0 (fun v1=>((0:Int)≤v1)∧(B21 P N2 x1 x2 x5 x7 (IntKind.u64.wrap (1*2^(min (Int.toNat v1) 64))) x15 x16 x17 H))
theorem q22 P N2:Q o22 (E k8 (B21 P N2)) k9 (B22 P N2):=fun _ _ _ _ _ _ _ _ _=>by kernel_rfl
def o23:=O 14948
def B23 (P:PT) (N2:Y k1):Y k9:=fun x1 x2 x5 x7 x15 x16 x17 H=>
  lenK x5 (fun n1=>pif (decide (((n1:Int):Int)>0)) (AC Tryz.prog T0 40 [x5,(Value.func (.func 96) ⟨[]⟩ ⟨[(Value.pointer (some ⟨x7,0,none⟩))]⟩)] H (fun v2 H3=>asB v2 (fun v4=>pif v4 (B3 P N2 x1 x2 x5 x15 x16 x17 H3) (B22 P N2 x1 x2 x5 x7 x15 x16 x17 H3)))) (B22 P N2 x1 x2 x5 x7 x15 x16 x17 H))
theorem q23 P N2:Q o23 (cnd 28 (E k1 (B3 P N2)) (E k9 (B22 P N2))) k9 (B23 P N2):=fun _ _ _ _ _ _ _ _ _=>by kernel_rfl
def o24:=O 3736
def B24 (P:PT) (N2:Y k1):Y k1:=fun x1 x2 x5 x15 x16 x17 H=>
  idxK x15 x17 1 (fun b1 o2=>ldI .i64 H b1 o2 (fun v3=>newK H [(Value.int .i64 0)] 2 (fun b4 H5=>stK H5 b4 0 [(Value.int .i64 v3)] (fun H6=>B23 P N2 x1 x2 x5 b4 x15 x16 x17 H6))))
theorem q24 P N2:Q o24 (E k9 (B23 P N2)) k1 (B24 P N2):=fun _ _ _ _ _ _ _ _=>by kernel_rfl
def o25:=O 232
def B25 (P:PT) (N2:Y k1):Y k1:=fun x1 x2 x5 x15 x16 x17 H=>
  pif (decide ((x17:Int)<x16)) (B24 P N2 x1 x2 x5 x15 x16 x17 H) (B1 P x5 H)
theorem q25 P N2:Q o25 (cnd 18 (E k1 (B24 P N2)) (E k0 (B1 P))) k1 (B25 P N2):=fun _ _ _ _ _ _ _ _=>by kernel_rfl
def L2 (P:PT):Y k1:=fun x1 x2 x5 x15 x16 x17 H=>
  ∃ (I:Y k1) (μ:NTy k1 (AHeap→Nat)),I x1 x2 x5 x15 x16 x17 H∧∀ y1 y2 y5 y15 y16 y17 G,I y1 y2 y5 y15 y16 y17 G→B25 P (fun z1 z2 z5 z15 z16 z17 G'=>I z1 z2 z5 z15 z16 z17 G'∧μ z1 z2 z5 z15 z16 z17 G'<μ y1 y2 y5 y15 y16 y17 G) y1 y2 y5 y15 y16 y17 G
theorem l2 P:LQ k1 (L2 P) (B25 P):=fun ⟨_,_,_,_,_,_,_⟩ _ ⟨I,μ,h0,hI⟩=>⟨apT _ I,apT _ μ,h0,fun ⟨_,_,_,_,_,_,_⟩ _ h=>hI _ _ _ _ _ _ _  h⟩
abbrev k10:Sk:=[(1,.i .u64),(2,.x),(5,.v)]
def o26:=O 28
def B26 (P:PT):Y k10:=fun x1 x2 x5 H=>
  AC Tryz.prog T0 25 [(Value.int .u64 x1)] H (fun v1 H2=>lenK v1 (fun n4=>L2 P x1 x2 x5 v1 (n4:Int) 0 H2))
theorem q26 P:Q o26 (E k1 (L2 P)) k10 (B26 P):=fun _ _ _ _ _=>by kernel_rfl
abbrev k11:Sk:=[(1,.i .u64),(2,.x)]
def o27:=O 6
def B27 (P:PT):Y k11:=fun x1 x2 H=>
  B26 P x1 x2 (Value.slice none 0 0) H
theorem q27 P:Q o27 (E k10 (B26 P)) k11 (B27 P):=fun _ _ _ _=>by kernel_rfl
abbrev k12:Sk:=[(0,.g [.i,.v]),(1,.i .u64)]
def o28:=O 2
def B28 (P:PT):Y k12:=fun x0a x0b x1 H=>
  newK H [(Value.int .i64 x0a),x0b] 26 (fun b1 H2=>B27 P x1 b1 H2)
theorem q28 P:Q o28 (E k11 (B27 P)) k12 (B28 P):=fun _ _ _ _ _=>by kernel_rfl
def code:Code:=(.seq (R 0 o28) (.seq (R 1 o27) (.seq (.seq (R 2 o26) (.block 0 (.loop (.seq (R 3 o25) (.seq (.cond (.tmp 18) .skip (.exit 0)) (.seq (.block 1 (.seq (R 4 o24) (.seq (.seq (R 5 o23) (.cond (.tmp 28) (.exit 1) .skip)) (.seq (R 6 o22) (.seq (.seq (R 7 o21) (.block 2 (.loop (.seq (.seq (R 8 o20) (.cond (.tmp 35) .skip (.exit 2))) (.seq (.block 3 (.seq (.region 10 ⟨o19⟩ true) (.block 4 (.loop (.seq (R 11 o18) (.seq (.cond (.tmp 46) .skip (.exit 4)) (.seq (.block 5 (.seq (R 12 o17) (.seq (R 13 o16) (.block 6 (.loop (.seq (R 14 o15) (.seq (.cond (.tmp 53) .skip (.exit 6)) (.seq (.block 7 (.seq (R 15 o14) (.seq (R 16 o13) (.cond (.tmp 64) (.seq (R 17 o12) (R 18 o11)) .skip)))) (R 19 o10))))))))) (R 20 o8)))))))) (R 9 o6)))))) (R 21 o4)))))) (R 22 o3))))))) (.seq (R 23 o1) .ret))))
theorem body:Tryz.f61.body=some code:=by kernel_rfl
theorem main (P:PT):∀ env H,(En 81 k12 (B28 P)) env H→AW Tryz.prog T0 code env H (M (ret P)):=
  (r_seq (b (q28 P)) (r_seq (b (q27 P)) (r_seq (r_seq (b (q26 P)) (r_block (rL (l2 P) (fun N2=>(r_seq (b (q25 P N2)) (r_seq (r_cond rfl r_skip (r_exit (fun _ _ h=>h))) (r_seq (r_block (r_seq (b (q24 P N2)) (r_seq (r_seq (b (q23 P N2)) (r_cond rfl (r_exit (fun _ _ h=>h)) r_skip)) (r_seq (b (q22 P N2)) (r_seq (r_seq (b (q21 P N2)) (r_block (rL (l5 P N2) (fun N5=>(r_seq (r_seq (b (q20 P N2 N5)) (r_cond rfl r_skip (r_exit (fun _ _ h=>h)))) (r_seq (r_block (r_seq (rD T0_ok mixed [(0,false),(1,false),(2,false),(3,false),(4,false),(5,false),(6,false),(7,false)] (by kernel_rfl) (q19 P N2 N5)) (r_block (rL (l7 P N2 N5) (fun N7=>(r_seq (b (q18 P N2 N5 N7)) (r_seq (r_cond rfl r_skip (r_exit (fun _ _ h=>h))) (r_seq (r_block (r_seq (b (q17 P N2 N5 N7)) (r_seq (b (q16 P N2 N5 N7)) (r_block (rL (l9 P N2 N5 N7) (fun N9=>(r_seq (b (q15 P N2 N5 N7 N9)) (r_seq (r_cond rfl r_skip (r_exit (fun _ _ h=>h))) (r_seq (r_block (r_seq (b (q14 P N2 N5 N7 N9)) (r_seq (b (q13 P N2 N5 N7 N9)) (r_cond rfl (r_seq (b (q12 P N2 N5 N7 N9)) (b (q11 P N2 N5 N7 N9))) r_skip)))) (b (q10 P N2 N5 N7 N9))))))))))) (b (q8 P N2 N5 N7)))))))))) (b (q6 P N2 N5)))))))) (b (q4 P N2))))))) (b (q3 P N2))))))))) (r_seq (b (q1 P)) r_ret))))
theorem ac (P:PT) (x0a:Int) (x0b:Value) (x1:Int) (H:AHeap) (h:B28 P x0a x0b x1 H):AC Tryz.prog T0 61 [(Value.agg ⟨[(Value.int .i64 x0a),x0b]⟩),(Value.int .u64 x1)] H P:=
  r_fn T0_ok (c:=code) (n:=81) Tryz.func61 body (by kernel_rfl) (main P) (En_mk (x0a,x0b,x1,()) (by kernel_rfl) ⟨by kernel_rfl,by kernel_rfl,trivial⟩ h)

end F61
namespace F62
abbrev E:=En 21
abbrev Q:=QB Tryz.prog T0 21
def O (k:Nat):=ob Tryz.f62 (pth k)
def ret (P:PT):EP:=retE T0 21 Tryz.f62 P
abbrev k0:Sk:=[(2,.x),(3,.x)]
def o1:=O 14
def B1 (P:PT):Y k0:=fun x2 x3 H=>
  ld1 H x2 1 (fun v1=>ldI .i64 H x3 0 (fun v2=>idxK v1 v2 2 (fun b3 o4=>ldI .i64 H b3 (o4+1) (fun v5=>P (Value.int .i64 v5) H))))
theorem q1 P:Q o1 (ret P) k0 (B1 P):=fun _ _ _ _=>by kernel_rfl
def o2:=O 52
def B2 (P:PT):Y k0:=fun x2 x3 H=>
  ld1 H x2 1 (fun v1=>ldI .i64 H x3 0 (fun v2=>idxK v1 v2 2 (fun b3 o4=>ldI .i64 H b3 o4 (fun v5=>P (Value.int .i64 v5) H))))
theorem q2 P:Q o2 (ret P) k0 (B2 P):=fun _ _ _ _=>by kernel_rfl
def o3:=O 12
def B3 (P:PT):Y k0:=fun x2 x3 H=>
  ld1 H x3 1 (fun v2=>asB v2 (fun v1=>pif v1 (B2 P x2 x3 H) (B1 P x2 x3 H)))
theorem q3 P:Q o3 (cnd 6 (E k0 (B2 P)) (E k0 (B1 P))) k0 (B3 P):=fun _ _ _ _=>by kernel_rfl
abbrev k1:Sk:=[(0,.g [.i,.v]),(1,.g [.i,.b])]
def o4:=O 2
def B4 (P:PT):Y k1:=fun x0a x0b x1a x1b H=>
  newK H [(Value.int .i64 x0a),x0b] 26 (fun b1 H2=>newK H2 [(Value.int .i64 x1a),(Value.bool x1b)] 61 (fun b3 H4=>B3 P b1 b3 H4))
theorem q4 P:Q o4 (E k0 (B3 P)) k1 (B4 P):=fun _ _ _ _ _ _=>by kernel_rfl
def code:Code:=(.seq (R 0 o4) (.seq (.seq (R 1 o3) (.cond (.tmp 6) (.seq (R 2 o2) .ret) .skip)) (.seq (R 3 o1) .ret)))
theorem body:Tryz.f62.body=some code:=by kernel_rfl
theorem main (P:PT):∀ env H,(En 21 k1 (B4 P)) env H→AW Tryz.prog T0 code env H (M (ret P)):=
  (r_seq (b (q4 P)) (r_seq (r_seq (b (q3 P)) (r_cond rfl (r_seq (b (q2 P)) r_ret) r_skip)) (r_seq (b (q1 P)) r_ret)))
theorem ac (P:PT) (x0a:Int) (x0b:Value) (x1a:Int) (x1b:Bool) (H:AHeap) (h:B4 P x0a x0b x1a x1b H):AC Tryz.prog T0 62 [(Value.agg ⟨[(Value.int .i64 x0a),x0b]⟩),(Value.agg ⟨[(Value.int .i64 x1a),(Value.bool x1b)]⟩)] H P:=
  r_fn T0_ok (c:=code) (n:=21) Tryz.func62 body (by kernel_rfl) (main P) (En_mk (x0a,x0b,x1a,x1b,()) (by kernel_rfl) ⟨by kernel_rfl,by kernel_rfl,trivial⟩ h)

end F62
namespace F63
abbrev E:=En 25
abbrev Q:=QB Tryz.prog T0 25
def O (k:Nat):=ob Tryz.f63 (pth k)
def ret (P:PT):EP:=retE T0 25 Tryz.f63 P
abbrev k0:Sk:=[(5,.v)]
def o1:=O 30
def B1 (P:PT):Y k0:=fun x5 H=>
  P x5 H
theorem q1 P:Q o1 (ret P) k0 (B1 P):=fun _ _ _=>by kernel_rfl
abbrev k1:Sk:=[(1,J),(5,.v),(9,.v),(10,J),(11,J)]
def o3:=O 935
def B3 (P:PT) (N2:Y k1):Y k1:=fun x1 x5 x9 x10 x11 H=>
  N2 x1 x5 x9 x10 (IntKind.i64.wrap (x11+1)) H
theorem q3 P N2:Q o3 (E k1 N2) k1 (B3 P N2):=fun _ _ _ _ _ _ _=>by kernel_rfl
abbrev k2:Sk:=[(1,J),(5,.v),(6,J),(9,.v),(10,J),(11,J)]
def o4:=O 14950
def B4 (P:PT) (N2:Y k1):Y k2:=fun x1 x5 x6 x9 x10 x11 H=>
  newK H [(Value.int .i64 x6)] 2 (fun b1 H2=>apK T0 2 H2 x5 (Value.slice (some ⟨b1,0,none⟩) 1 (1+1)) (fun v3 H4=>B3 P N2 x1 v3 x9 x10 x11 H4))
theorem q4 P N2:Q o4 (E k1 (B3 P N2)) k2 (B4 P N2):=fun _ _ _ _ _ _ _ _=>by kernel_rfl
abbrev k3:Sk:=[(1,J),(5,.v),(6,J),(7,.x),(9,.v),(10,J),(11,J)]
def o5:=O 7474
def B5 (P:PT) (N2:Y k1):Y k3:=fun x1 x5 x6 x7 x9 x10 x11 H=>
  ldI .i64 H x7 0 (fun v1=>ldI .i64 H x7 1 (fun v2=>AC Tryz.prog T0 97 [(Value.agg ⟨[(Value.int .i64 v1),(Value.int .i64 v2)]⟩),(Value.int .i64 x1)] H (fun v3 H4=>asB v3 (fun v5=>pif v5 (B4 P N2 x1 x5 x6 x9 x10 x11 H4) (B3 P N2 x1 x5 x9 x10 x11 H4)))))
theorem q5 P N2:Q o5 (cnd 18 (E k2 (B4 P N2)) (E k1 (B3 P N2))) k3 (B5 P N2):=fun _ _ _ _ _ _ _ _ _=>by kernel_rfl
def o6:=O 3736
def B6 (P:PT) (N2:Y k1):Y k1:=fun x1 x5 x9 x10 x11 H=>
  idxK x9 x11 2 (fun b1 o2=>ldI .i64 H b1 o2 (fun v3=>ldI .i64 H b1 (o2+1) (fun v4=>newK H [(Value.int .i64 0),(Value.int .i64 0)] 84 (fun b5 H6=>stK H6 b5 0 [(Value.int .i64 v3),(Value.int .i64 v4)] (fun H7=>B5 P N2 x1 x5 x11 b5 x9 x10 x11 H7)))))
theorem q6 P N2:Q o6 (E k3 (B5 P N2)) k1 (B6 P N2):=fun _ _ _ _ _ _ _=>by kernel_rfl
def o7:=O 232
def B7 (P:PT) (N2:Y k1):Y k1:=fun x1 x5 x9 x10 x11 H=>
  pif (decide ((x11:Int)<x10)) (B6 P N2 x1 x5 x9 x10 x11 H) (B1 P x5 H)
theorem q7 P N2:Q o7 (cnd 12 (E k1 (B6 P N2)) (E k0 (B1 P))) k1 (B7 P N2):=fun _ _ _ _ _ _ _=>by kernel_rfl
def L2 (P:PT):Y k1:=fun x1 x5 x9 x10 x11 H=>
  ∃ (I:Y k1) (μ:NTy k1 (AHeap→Nat)),I x1 x5 x9 x10 x11 H∧∀ y1 y5 y9 y10 y11 G,I y1 y5 y9 y10 y11 G→B7 P (fun z1 z5 z9 z10 z11 G'=>I z1 z5 z9 z10 z11 G'∧μ z1 z5 z9 z10 z11 G'<μ y1 y5 y9 y10 y11 G) y1 y5 y9 y10 y11 G
theorem l2 P:LQ k1 (L2 P) (B7 P):=fun ⟨_,_,_,_,_,_⟩ _ ⟨I,μ,h0,hI⟩=>⟨apT _ I,apT _ μ,h0,fun ⟨_,_,_,_,_,_⟩ _ h=>hI _ _ _ _ _ _  h⟩
abbrev k4:Sk:=[(1,J),(2,.x),(5,.v)]
def o8:=O 28
def B8 (P:PT):Y k4:=fun x1 x2 x5 H=>
  ld1 H x2 1 (fun v1=>lenK v1 (fun n2=>L2 P x1 x5 v1 (n2:Int) 0 H))
theorem q8 P:Q o8 (E k1 (L2 P)) k4 (B8 P):=fun _ _ _ _ _=>by kernel_rfl
abbrev k5:Sk:=[(1,J),(2,.x)]
def o9:=O 6
def B9 (P:PT):Y k5:=fun x1 x2 H=>
  B8 P x1 x2 (Value.slice none 0 0) H
theorem q9 P:Q o9 (E k4 (B8 P)) k5 (B9 P):=fun _ _ _ _=>by kernel_rfl
abbrev k6:Sk:=[(0,.g [.i,.v]),(1,J)]
def o10:=O 2
def B10 (P:PT):Y k6:=fun x0a x0b x1 H=>
  newK H [(Value.int .i64 x0a),x0b] 26 (fun b1 H2=>B9 P x1 b1 H2)
theorem q10 P:Q o10 (E k5 (B9 P)) k6 (B10 P):=fun _ _ _ _ _=>by kernel_rfl
def code:Code:=(.seq (R 0 o10) (.seq (R 1 o9) (.seq (.seq (R 2 o8) (.block 0 (.loop (.seq (R 3 o7) (.seq (.cond (.tmp 12) .skip (.exit 0)) (.seq (.block 1 (.seq (R 4 o6) (.seq (R 5 o5) (.cond (.tmp 18) (R 6 o4) .skip)))) (R 7 o3))))))) (.seq (R 8 o1) .ret))))
theorem body:Tryz.f63.body=some code:=by kernel_rfl
theorem main (P:PT):∀ env H,(En 25 k6 (B10 P)) env H→AW Tryz.prog T0 code env H (M (ret P)):=
  (r_seq (b (q10 P)) (r_seq (b (q9 P)) (r_seq (r_seq (b (q8 P)) (r_block (rL (l2 P) (fun N2=>(r_seq (b (q7 P N2)) (r_seq (r_cond rfl r_skip (r_exit (fun _ _ h=>h))) (r_seq (r_block (r_seq (b (q6 P N2)) (r_seq (b (q5 P N2)) (r_cond rfl (b (q4 P N2)) r_skip)))) (b (q3 P N2))))))))) (r_seq (b (q1 P)) r_ret))))
theorem ac (P:PT) (x0a:Int) (x0b:Value) (x1:Int) (H:AHeap) (h:B10 P x0a x0b x1 H):AC Tryz.prog T0 63 [(Value.agg ⟨[(Value.int .i64 x0a),x0b]⟩),(Value.int .i64 x1)] H P:=
  r_fn T0_ok (c:=code) (n:=25) Tryz.func63 body (by kernel_rfl) (main P) (En_mk (x0a,x0b,x1,()) (by kernel_rfl) ⟨by kernel_rfl,by kernel_rfl,trivial⟩ h)

end F63
namespace F64
abbrev E:=En 71
abbrev Q:=QB Tryz.prog T0 71
def O (k:Nat):=ob Tryz.f64 (pth k)
def ret (P:PT):EP:=retE T0 71 Tryz.f64 P
abbrev k0:Sk:=[(1,.v),(2,.x)]
def o1:=O 30
def B1 (P:PT):Y k0:=fun x1 x2 H=>
  lenK x1 (fun n1=>ldI .i64 H x2 0 (fun v2=>P (Value.bool ((IntKind.i64.wrap (2*(n1:Int)):Int)==v2)) H))
theorem q1 P:Q o1 (ret P) k0 (B1 P):=fun _ _ _ _=>by kernel_rfl
abbrev k1:Sk:=[(1,.v),(2,.x),(5,.v),(6,J)]
def o3:=O 467
def B3 (P:PT) (N2:Y k1):Y k1:=fun x1 x2 x5 x6 H=>
  N2 x1 x2 x5 (IntKind.i64.wrap (x6+1)) H
theorem q3 P N2:Q o3 (E k1 N2) k1 (B3 P N2):=fun _ _ _ _ _ _=>by kernel_rfl
abbrev k2:Sk:=[(1,.v),(2,.x),(5,.v),(6,J),(7,J)]
def o5:=O 59699
def B5 (P:PT) (N2:Y k1) (N4:Y k2):Y k2:=fun x1 x2 x5 x6 x7 H=>
  N4 x1 x2 x5 x6 (IntKind.i64.wrap (x7+1)) H
theorem q5 P N2 N4:Q o5 (E k2 N4) k2 (B5 P N2 N4):=fun _ _ _ _ _ _ _=>by kernel_rfl
abbrev k3:Sk:=[(1,.v),(2,.x),(5,.v),(6,J),(7,J),(8,J)]
def o6:=O 477587
def B6 (P:PT) (N2:Y k1) (N4:Y k2):Y k3:=fun x1 x2 x5 x6 x7 x8 H=>
  idxK x5 x8 1 (fun b1 o2=>stK H b1 o2 [(Value.bool true)] (fun H3=>B5 P N2 N4 x1 x2 x5 x6 x7 H3))
theorem q6 P N2 N4:Q o6 (E k2 (B5 P N2 N4)) k3 (B6 P N2 N4):=fun _ _ _ _ _ _ _ _=>by kernel_rfl
abbrev k4:Sk:=[]
def o7:=O 3820692
def B7 (P:PT) (N2:Y k1) (N4:Y k2):Y k4:=fun H=>
  P (Value.bool false) H
theorem q7 P N2 N4:Q o7 (ret P) k4 (B7 P N2 N4):=fun _ _=>by kernel_rfl
def o8:=O 955172
def B8 (P:PT) (N2:Y k1) (N4:Y k2):Y k3:=fun x1 x2 x5 x6 x7 x8 H=>
  idxK x5 x8 1 (fun b1 o2=>ld1 H b1 o2 (fun v4=>asB v4 (fun v3=>pif v3 (B7 P N2 N4 H) (B6 P N2 N4 x1 x2 x5 x6 x7 x8 H))))
theorem q8 P N2 N4:Q o8 (cnd 61 (E k4 (B7 P N2 N4)) (E k3 (B6 P N2 N4))) k3 (B8 P N2 N4):=fun _ _ _ _ _ _ _ _=>by kernel_rfl
def o9:=O 238792
def B9 (P:PT) (N2:Y k1) (N4:Y k2):Y k2:=fun x1 x2 x5 x6 x7 H=>
  ld1 H x2 1 (fun v1=>idxK x1 x6 1 (fun b2 o3=>ldI .i64 H b2 o3 (fun v4=>idxK v1 v4 2 (fun b5 o6=>bndK x7 2 (ldI .i64 H b5 (o6+Int.toNat x7*1) (fun v7=>B8 P N2 N4 x1 x2 x5 x6 x7 v7 H))))))
theorem q9 (P:PT) (N2:Y k1) (N4:Y k2):QD Tryz.prog T0 71 o9 [(0,false),(1,false),(2,false),(3,false),(4,false),(5,false),(6,false),(7,false),(8,false),(9,false),(10,false)] (En 71 k3 (B8 P N2 N4)) k2 (B9 P N2 N4):=fun _ _ _ _ _ _ _  => by kernel_rfl
def o10:=O 59696
def B10 (P:PT) (N2:Y k1) (N4:Y k2):Y k2:=fun x1 x2 x5 x6 x7 H=>
  pif (decide ((x7:Int)<2)) (B9 P N2 N4 x1 x2 x5 x6 x7 H) (B3 P N2 x1 x2 x5 x6 H)
theorem q10 P N2 N4:Q o10 (cnd 45 (E k2 (B9 P N2 N4)) (E k1 (B3 P N2))) k2 (B10 P N2 N4):=fun _ _ _ _ _ _ _=>by kernel_rfl
def L4 (P:PT) (N2:Y k1):Y k2:=fun x1 x2 x5 x6 x7 H=>
  ∃ (I:Y k2) (μ:NTy k2 (AHeap→Nat)),I x1 x2 x5 x6 x7 H∧∀ y1 y2 y5 y6 y7 G,I y1 y2 y5 y6 y7 G→B10 P N2 (fun z1 z2 z5 z6 z7 G'=>I z1 z2 z5 z6 z7 G'∧μ z1 z2 z5 z6 z7 G'<μ y1 y2 y5 y6 y7 G) y1 y2 y5 y6 y7 G
theorem l4 P N2:LQ k2 (L4 P N2) (B10 P N2):=fun ⟨_,_,_,_,_,_⟩ _ ⟨I,μ,h0,hI⟩=>⟨apT _ I,apT _ μ,h0,fun ⟨_,_,_,_,_,_⟩ _ h=>hI _ _ _ _ _ _  h⟩
def o11:=O 3730
def B11 (P:PT) (N2:Y k1):Y k1:=fun x1 x2 x5 x6 H=>
  L4 P N2 x1 x2 x5 x6 0 H
theorem q11 P N2:Q o11 (E k2 (L4 P N2)) k1 (B11 P N2):=fun _ _ _ _ _ _=>by kernel_rfl
def o12:=O 14916
def B12 (P:PT) (N2:Y k1):Y k4:=fun H=>
  P (Value.bool false) H
theorem q12 P N2:Q o12 (ret P) k4 (B12 P N2):=fun _ _=>by kernel_rfl
def o13:=O 3728
def B13 (P:PT) (N2:Y k1):Y k1:=fun x1 x2 x5 x6 H=>
  idxK x1 x6 1 (fun b1 o2=>ldI .i64 H b1 o2 (fun v3=>ld1 H x2 1 (fun v4=>lenK v4 (fun n5=>AC Tryz.prog T0 93 [(Value.int .i64 v3),(Value.int .i64 0),(Value.int .i64 (IntKind.i64.wrap ((n5:Int)-1)))] H (fun v6 H7=>asB v6 (fun v8=>pif (!v8) (B12 P N2 H7) (pif (decide ((x6:Int)>0)) (idxK x1 x6 1 (fun b9 o10=>ldI .i64 H7 b9 o10 (fun v11=>idxK x1 (IntKind.i64.wrap (x6-1)) 1 (fun b12 o13=>ldI .i64 H7 b12 o13 (fun v14=>pif (decide ((v11:Int)≤v14)) (B12 P N2 H7) (B11 P N2 x1 x2 x5 x6 H7)))))) (B11 P N2 x1 x2 x5 x6 H7))))))))
theorem q13 (P:PT) (N2:Y k1):QD Tryz.prog T0 71 o13 [(0,false),(1,false),(2,false),(3,false),(4,false),(5,false),(6,false),(7,false),(8,false),(9,false),(10,false),(11,false),(12,false),(13,false),(14,false),(15,false),(16,false),(17,false),(18,false),(19,false),(20,false),(21,false),(22,false),(23,false),(24,false),(25,false)] (cnd 43 (En 71 k4 (B12 P N2)) (En 71 k1 (B11 P N2))) k1 (B13 P N2):=fun _ _ _ _ _ _  => by kernel_rfl
def o14:=O 464
def B14 (P:PT) (N2:Y k1):Y k1:=fun x1 x2 x5 x6 H=>
  lenK x1 (fun n1=>pif (decide ((x6:Int)<(n1:Int))) (B13 P N2 x1 x2 x5 x6 H) (B1 P x1 x2 H))
theorem q14 P N2:Q o14 (cnd 15 (E k1 (B13 P N2)) (E k0 (B1 P))) k1 (B14 P N2):=fun _ _ _ _ _ _=>by kernel_rfl
def L2 (P:PT):Y k1:=fun x1 x2 x5 x6 H=>
  ∃ (I:Y k1) (μ:NTy k1 (AHeap→Nat)),I x1 x2 x5 x6 H∧∀ y1 y2 y5 y6 G,I y1 y2 y5 y6 G→B14 P (fun z1 z2 z5 z6 G'=>I z1 z2 z5 z6 G'∧μ z1 z2 z5 z6 G'<μ y1 y2 y5 y6 G) y1 y2 y5 y6 G
theorem l2 P:LQ k1 (L2 P) (B14 P):=fun ⟨_,_,_,_,_⟩ _ ⟨I,μ,h0,hI⟩=>⟨apT _ I,apT _ μ,h0,fun ⟨_,_,_,_,_⟩ _ h=>hI _ _ _ _ _  h⟩
abbrev k5:Sk:=[(1,.v),(2,.x),(5,.v)]
def o15:=O 28
def B15 (P:PT):Y k5:=fun x1 x2 x5 H=>
  L2 P x1 x2 x5 0 H
theorem q15 P:Q o15 (E k1 (L2 P)) k5 (B15 P):=fun _ _ _ _ _=>by kernel_rfl
def o16:=O 6
def B16 (P:PT):Y k0:=fun x1 x2 H=>
  ldI .i64 H x2 0 (fun v1=>mkR H 1 4 [(Value.bool false)] v1 v1 (fun v3 H2=>B15 P x1 x2 v3 H2))
theorem q16 P:Q o16 (E k5 (B15 P)) k0 (B16 P):=fun _ _ _ _=>by kernel_rfl
abbrev k6:Sk:=[(0,.g [.i,.v]),(1,.v)]
def o17:=O 2
def B17 (P:PT):Y k6:=fun x0a x0b x1 H=>
  newK H [(Value.int .i64 x0a),x0b] 26 (fun b1 H2=>B16 P x1 b1 H2)
theorem q17 P:Q o17 (E k0 (B16 P)) k6 (B17 P):=fun _ _ _ _ _=>by kernel_rfl
def code:Code:=(.seq (R 0 o17) (.seq (R 1 o16) (.seq (.seq (R 2 o15) (.block 0 (.loop (.seq (.seq (R 3 o14) (.cond (.tmp 15) .skip (.exit 0))) (.seq (.block 1 (.seq (.seq (.region 5 ⟨o13⟩ true) (.cond (.tmp 43) (.seq (R 6 o12) .ret) .skip)) (.seq (R 7 o11) (.block 2 (.loop (.seq (.seq (R 8 o10) (.cond (.tmp 45) .skip (.exit 2))) (.seq (.block 3 (.seq (.region 10 ⟨o9⟩ true) (.seq (.seq (R 11 o8) (.cond (.tmp 61) (.seq (R 12 o7) .ret) .skip)) (R 13 o6)))) (R 9 o5)))))))) (R 4 o3)))))) (.seq (R 14 o1) .ret))))
theorem body:Tryz.f64.body=some code:=by kernel_rfl
theorem main (P:PT):∀ env H,(En 71 k6 (B17 P)) env H→AW Tryz.prog T0 code env H (M (ret P)):=
  (r_seq (b (q17 P)) (r_seq (b (q16 P)) (r_seq (r_seq (b (q15 P)) (r_block (rL (l2 P) (fun N2=>(r_seq (r_seq (b (q14 P N2)) (r_cond rfl r_skip (r_exit (fun _ _ h=>h)))) (r_seq (r_block (r_seq (r_seq (rD T0_ok mixed [(0,false),(1,false),(2,false),(3,false),(4,false),(5,false),(6,false),(7,false),(8,false),(9,false),(10,false),(11,false),(12,false),(13,false),(14,false),(15,false),(16,false),(17,false),(18,false),(19,false),(20,false),(21,false),(22,false),(23,false),(24,false),(25,false)] (by kernel_rfl) (q13 P N2)) (r_cond rfl (r_seq (b (q12 P N2)) r_ret) r_skip)) (r_seq (b (q11 P N2)) (r_block (rL (l4 P N2) (fun N4=>(r_seq (r_seq (b (q10 P N2 N4)) (r_cond rfl r_skip (r_exit (fun _ _ h=>h)))) (r_seq (r_block (r_seq (rD T0_ok mixed [(0,false),(1,false),(2,false),(3,false),(4,false),(5,false),(6,false),(7,false),(8,false),(9,false),(10,false)] (by kernel_rfl) (q9 P N2 N4)) (r_seq (r_seq (b (q8 P N2 N4)) (r_cond rfl (r_seq (b (q7 P N2 N4)) r_ret) r_skip)) (b (q6 P N2 N4))))) (b (q5 P N2 N4)))))))))) (b (q3 P N2)))))))) (r_seq (b (q1 P)) r_ret))))
theorem ac (P:PT) (x0a:Int) (x0b x1:Value) (H:AHeap) (h:B17 P x0a x0b x1 H):AC Tryz.prog T0 64 [(Value.agg ⟨[(Value.int .i64 x0a),x0b]⟩),x1] H P:=
  r_fn T0_ok (c:=code) (n:=71) Tryz.func64 body (by kernel_rfl) (main P) (En_mk (x0a,x0b,x1,()) (by kernel_rfl) ⟨by kernel_rfl,by kernel_rfl,trivial⟩ h)

end F64
namespace F65
abbrev E:=En 18
abbrev Q:=QB Tryz.prog T0 18
def O (k:Nat):=ob Tryz.f65 (pth k)
def ret (P:PT):EP:=retE T0 18 Tryz.f65 P
abbrev k0:Sk:=[]
def o1:=O 14
def B1 (P:PT):Y k0:=fun H=>
  P (Value.bool false) H
theorem q1 P:Q o1 (ret P) k0 (B1 P):=fun _ _=>by kernel_rfl
abbrev k1:Sk:=[(0,.v),(1,J),(5,J)]
def o3:=O 211
def B3 (P:PT) (N2:Y k1):Y k1:=fun x0 x1 x5 H=>
  N2 x0 x1 (IntKind.i64.wrap (x5+1)) H
theorem q3 P N2:Q o3 (E k1 N2) k1 (B3 P N2):=fun _ _ _ _ _=>by kernel_rfl
def o4:=O 3364
def B4 (P:PT) (N2:Y k1):Y k0:=fun H=>
  P (Value.bool true) H
theorem q4 P N2:Q o4 (ret P) k0 (B4 P N2):=fun _ _=>by kernel_rfl
def o5:=O 840
def B5 (P:PT) (N2:Y k1):Y k1:=fun x0 x1 x5 H=>
  idxK x0 x5 1 (fun b1 o2=>ldI .i64 H b1 o2 (fun v3=>pif ((v3:Int)==x1) (B4 P N2 H) (B3 P N2 x0 x1 x5 H)))
theorem q5 P N2:Q o5 (cnd 17 (E k0 (B4 P N2)) (E k1 (B3 P N2))) k1 (B5 P N2):=fun _ _ _ _ _=>by kernel_rfl
def o6:=O 208
def B6 (P:PT) (N2:Y k1):Y k1:=fun x0 x1 x5 H=>
  lenK x0 (fun n1=>pif (decide ((x5:Int)<(n1:Int))) (B5 P N2 x0 x1 x5 H) (B1 P H))
theorem q6 P N2:Q o6 (cnd 9 (E k1 (B5 P N2)) (E k0 (B1 P))) k1 (B6 P N2):=fun _ _ _ _ _=>by kernel_rfl
def L2 (P:PT):Y k1:=fun x0 x1 x5 H=>
  ∃ (I:Y k1) (μ:NTy k1 (AHeap→Nat)),I x0 x1 x5 H∧∀ y0 y1 y5 G,I y0 y1 y5 G→B6 P (fun z0 z1 z5 G'=>I z0 z1 z5 G'∧μ z0 z1 z5 G'<μ y0 y1 y5 G) y0 y1 y5 G
theorem l2 P:LQ k1 (L2 P) (B6 P):=fun ⟨_,_,_,_⟩ _ ⟨I,μ,h0,hI⟩=>⟨apT _ I,apT _ μ,h0,fun ⟨_,_,_,_⟩ _ h=>hI _ _ _ _  h⟩
abbrev k2:Sk:=[(0,.v),(1,J)]
def o7:=O 12
def B7 (P:PT):Y k2:=fun x0 x1 H=>
  L2 P x0 x1 0 H
theorem q7 P:Q o7 (E k1 (L2 P)) k2 (B7 P):=fun _ _ _ _=>by kernel_rfl
def o8:=O 2
def B8 (P:PT):Y k2:=fun x0 x1 H=>
  B7 P x0 x1 H
theorem q8 P:Q o8 (E k2 (B7 P)) k2 (B8 P):=fun _ _ _ _=>by kernel_rfl
def code:Code:=(.seq (R 0 o8) (.seq (.seq (R 1 o7) (.block 0 (.loop (.seq (.seq (R 2 o6) (.cond (.tmp 9) .skip (.exit 0))) (.seq (.block 1 (.seq (R 4 o5) (.cond (.tmp 17) (.seq (R 5 o4) .ret) .skip))) (R 3 o3)))))) (.seq (R 6 o1) .ret)))
theorem body:Tryz.f65.body=some code:=by kernel_rfl
theorem main (P:PT):∀ env H,(En 18 k2 (B8 P)) env H→AW Tryz.prog T0 code env H (M (ret P)):=
  (r_seq (b (q8 P)) (r_seq (r_seq (b (q7 P)) (r_block (rL (l2 P) (fun N2=>(r_seq (r_seq (b (q6 P N2)) (r_cond rfl r_skip (r_exit (fun _ _ h=>h)))) (r_seq (r_block (r_seq (b (q5 P N2)) (r_cond rfl (r_seq (b (q4 P N2)) r_ret) r_skip))) (b (q3 P N2)))))))) (r_seq (b (q1 P)) r_ret)))
theorem ac (P:PT) (x0:Value) (x1:Int) (H:AHeap) (h:B8 P x0 x1 H):AC Tryz.prog T0 65 [x0,(Value.int .i64 x1)] H P:=
  r_fn T0_ok (c:=code) (n:=18) Tryz.func65 body (by kernel_rfl) (main P) (En_mk (x0,x1,()) (by kernel_rfl) ⟨by kernel_rfl,by kernel_rfl,trivial⟩ h)

end F65
namespace F66
abbrev E:=En 38
abbrev Q:=QB Tryz.prog T0 38
def O (k:Nat):=ob Tryz.f66 (pth k)
def ret (P:PT):EP:=retE T0 38 Tryz.f66 P
abbrev k0:Sk:=[(5,.v)]
def o1:=O 30
def B1 (P:PT):Y k0:=fun x5 H=>
  P x5 H
theorem q1 P:Q o1 (ret P) k0 (B1 P):=fun _ _ _=>by kernel_rfl
abbrev k1:Sk:=[(1,J),(2,.x),(5,.v),(6,J)]
def o3:=O 467
def B3 (P:PT) (N2:Y k1):Y k1:=fun x1 x2 x5 x6 H=>
  N2 x1 x2 x5 (IntKind.i64.wrap (x6+1)) H
theorem q3 P N2:Q o3 (E k1 N2) k1 (B3 P N2):=fun _ _ _ _ _ _=>by kernel_rfl
def o4:=O 3730
def B4 (P:PT) (N2:Y k1):Y k1:=fun x1 x2 x5 x6 H=>
  newK H [(Value.int .i64 x6)] 2 (fun b1 H2=>apK T0 2 H2 x5 (Value.slice (some ⟨b1,0,none⟩) 1 (1+1)) (fun v3 H4=>B3 P N2 x1 x2 v3 x6 H4))
theorem q4 P N2:Q o4 (E k1 (B3 P N2)) k1 (B4 P N2):=fun _ _ _ _ _ _=>by kernel_rfl
def o5:=O 1864
def B5 (P:PT) (N2:Y k1):Y k1:=fun x1 x2 x5 x6 H=>
  ld1 H x2 1 (fun v1=>idxK v1 x6 2 (fun b2 o3=>ldI .i64 H b2 o3 (fun v4=>pif ((v4:Int)==x1) (B4 P N2 x1 x2 x5 x6 H) (ld1 H x2 1 (fun v5=>idxK v5 x6 2 (fun b6 o7=>ldI .i64 H b6 (o7+1) (fun v8=>pif ((v8:Int)==x1) (B4 P N2 x1 x2 x5 x6 H) (B3 P N2 x1 x2 x5 x6 H))))))))
theorem q5 P N2:Q o5 (cnd 32 (E k1 (B4 P N2)) (E k1 (B3 P N2))) k1 (B5 P N2):=fun _ _ _ _ _ _=>by kernel_rfl
def o6:=O 464
def B6 (P:PT) (N2:Y k1):Y k1:=fun x1 x2 x5 x6 H=>
  ld1 H x2 1 (fun v1=>lenK v1 (fun n2=>pif (decide ((x6:Int)<(n2:Int))) (B5 P N2 x1 x2 x5 x6 H) (B1 P x5 H)))
theorem q6 P N2:Q o6 (cnd 12 (E k1 (B5 P N2)) (E k0 (B1 P))) k1 (B6 P N2):=fun _ _ _ _ _ _=>by kernel_rfl
def L2 (P:PT):Y k1:=fun x1 x2 x5 x6 H=>
  ∃ (I:Y k1) (μ:NTy k1 (AHeap→Nat)),I x1 x2 x5 x6 H∧∀ y1 y2 y5 y6 G,I y1 y2 y5 y6 G→B6 P (fun z1 z2 z5 z6 G'=>I z1 z2 z5 z6 G'∧μ z1 z2 z5 z6 G'<μ y1 y2 y5 y6 G) y1 y2 y5 y6 G
theorem l2 P:LQ k1 (L2 P) (B6 P):=fun ⟨_,_,_,_,_⟩ _ ⟨I,μ,h0,hI⟩=>⟨apT _ I,apT _ μ,h0,fun ⟨_,_,_,_,_⟩ _ h=>hI _ _ _ _ _  h⟩
abbrev k2:Sk:=[(1,J),(2,.x),(5,.v)]
def o7:=O 28
def B7 (P:PT):Y k2:=fun x1 x2 x5 H=>
  L2 P x1 x2 x5 0 H
theorem q7 P:Q o7 (E k1 (L2 P)) k2 (B7 P):=fun _ _ _ _ _=>by kernel_rfl
abbrev k3:Sk:=[(1,J),(2,.x)]
def o8:=O 6
def B8 (P:PT):Y k3:=fun x1 x2 H=>
  newK H [] 2 (fun b1 H2=>B7 P x1 x2 (Value.slice (some ⟨b1,0,none⟩) 0 (0+1)) H2)
theorem q8 P:Q o8 (E k2 (B7 P)) k3 (B8 P):=fun _ _ _ _=>by kernel_rfl
abbrev k4:Sk:=[(0,.g [.i,.v]),(1,J)]
def o9:=O 2
def B9 (P:PT):Y k4:=fun x0a x0b x1 H=>
  newK H [(Value.int .i64 x0a),x0b] 26 (fun b1 H2=>B8 P x1 b1 H2)
theorem q9 P:Q o9 (E k3 (B8 P)) k4 (B9 P):=fun _ _ _ _ _=>by kernel_rfl
def code:Code:=(.seq (R 0 o9) (.seq (R 1 o8) (.seq (.seq (R 2 o7) (.block 0 (.loop (.seq (.seq (R 3 o6) (.cond (.tmp 12) .skip (.exit 0))) (.seq (.block 1 (.seq (R 5 o5) (.cond (.tmp 32) (R 6 o4) .skip))) (R 4 o3)))))) (.seq (R 7 o1) .ret))))
theorem body:Tryz.f66.body=some code:=by kernel_rfl
theorem main (P:PT):∀ env H,(En 38 k4 (B9 P)) env H→AW Tryz.prog T0 code env H (M (ret P)):=
  (r_seq (b (q9 P)) (r_seq (b (q8 P)) (r_seq (r_seq (b (q7 P)) (r_block (rL (l2 P) (fun N2=>(r_seq (r_seq (b (q6 P N2)) (r_cond rfl r_skip (r_exit (fun _ _ h=>h)))) (r_seq (r_block (r_seq (b (q5 P N2)) (r_cond rfl (b (q4 P N2)) r_skip))) (b (q3 P N2)))))))) (r_seq (b (q1 P)) r_ret))))
theorem ac (P:PT) (x0a:Int) (x0b:Value) (x1:Int) (H:AHeap) (h:B9 P x0a x0b x1 H):AC Tryz.prog T0 66 [(Value.agg ⟨[(Value.int .i64 x0a),x0b]⟩),(Value.int .i64 x1)] H P:=
  r_fn T0_ok (c:=code) (n:=38) Tryz.func66 body (by kernel_rfl) (main P) (En_mk (x0a,x0b,x1,()) (by kernel_rfl) ⟨by kernel_rfl,by kernel_rfl,trivial⟩ h)

end F66
namespace F67
abbrev E:=En 22
abbrev Q:=QB Tryz.prog T0 22
def O (k:Nat):=ob Tryz.f67 (pth k)
def ret (P:PT):EP:=retE T0 22 Tryz.f67 P
abbrev k0:Sk:=[(1,J),(2,J),(3,.x)]
def o1:=O 6
def B1 (P:PT):Y k0:=fun x1 x2 x3 H=>
  ld1 H x3 1 (fun v1=>idxK v1 x1 2 (fun b2 o3=>ldI .i64 H b2 o3 (fun v4=>ld1 H x3 1 (fun v5=>idxK v5 x1 2 (fun b6 o7=>ldI .i64 H b6 (o7+1) (fun v8=>P (Value.int .i64 (IntKind.i64.wrap ((IntKind.i64.wrap (v4+v8))-x2))) H))))))
theorem q1 (P:PT):QD Tryz.prog T0 22 o1 [(0,false),(1,false),(2,false),(3,false),(4,false),(5,false),(6,false),(7,false),(8,false),(9,false),(10,false),(11,false),(12,false),(13,false),(14,false),(15,false)] (ret P) k0 (B1 P):=fun _ _ _ _ _  => by kernel_rfl
abbrev k1:Sk:=[(0,.g [.i,.v]),(1,J),(2,J)]
def o2:=O 2
def B2 (P:PT):Y k1:=fun x0a x0b x1 x2 H=>
  newK H [(Value.int .i64 x0a),x0b] 26 (fun b1 H2=>B1 P x1 x2 b1 H2)
theorem q2 P:Q o2 (E k0 (B1 P)) k1 (B2 P):=fun _ _ _ _ _ _=>by kernel_rfl
def code:Code:=(.seq (R 0 o2) (.seq (.region 1 ⟨o1⟩ true) .ret))
theorem body:Tryz.f67.body=some code:=by kernel_rfl
theorem main (P:PT):∀ env H,(En 22 k1 (B2 P)) env H→AW Tryz.prog T0 code env H (M (ret P)):=
  (r_seq (b (q2 P)) (r_seq (rD T0_ok mixed [(0,false),(1,false),(2,false),(3,false),(4,false),(5,false),(6,false),(7,false),(8,false),(9,false),(10,false),(11,false),(12,false),(13,false),(14,false),(15,false)] (by kernel_rfl) (q1 P)) r_ret))
theorem ac (P:PT) (x0a:Int) (x0b:Value) (x1 x2:Int) (H:AHeap) (h:B2 P x0a x0b x1 x2 H):AC Tryz.prog T0 67 [(Value.agg ⟨[(Value.int .i64 x0a),x0b]⟩),(Value.int .i64 x1),(Value.int .i64 x2)] H P:=
  r_fn T0_ok (c:=code) (n:=22) Tryz.func67 body (by kernel_rfl) (main P) (En_mk (x0a,x0b,x1,x2,()) (by kernel_rfl) ⟨by kernel_rfl,by kernel_rfl,by kernel_rfl,trivial⟩ h)

end F67
namespace F68
abbrev E:=En 32
abbrev Q:=QB Tryz.prog T0 32
def O (k:Nat):=ob Tryz.f68 (pth k)
def ret (P:PT):EP:=retE T0 32 Tryz.f68 P
abbrev k0:Sk:=[(0,.v),(2,.x)]
def o1:=O 14
def B1 (P:PT):Y k0:=fun x0 x2 H=>
  newK H [(Value.int .i64 2),(Value.int .i64 4),(Value.int .i64 4),(Value.int .i64 6),(Value.int .i64 6),(Value.int .i64 8),(Value.int .i64 8),(Value.int .i64 10)] 2 (fun b1 H2=>AC Tryz.prog T0 56 [x0,(Value.slice (some ⟨b1,0,none⟩) 8 (8+1))] H2 (fun v3 H4=>asI .i64 v3 (fun v5=>AC Tryz.prog T0 83 [x0,(Value.int .i64 v5)] H4 (fun v6 H7=>agg2 v6 (fun v8 v9=>asI .i64 v8 (fun v10=>stK H7 x2 0 [(Value.int .i64 v10),v9] (fun H12=>ldI .i64 H12 x2 0 (fun v13=>ld1 H12 x2 1 (fun v14=>P (Value.agg ⟨[(Value.int .i64 v13),v14]⟩) H12)))))))))
theorem q1 P:Q o1 (ret P) k0 (B1 P):=fun _ _ _ _=>by kernel_rfl
abbrev k1:Sk:=[(0,.v),(2,.x),(4,.x)]
def o2:=O 214
def B2 (P:PT):Y k1:=fun x0 x2 x4 H=>
  ldI .i64 H x4 0 (fun v1=>ld1 H x4 1 (fun v2=>ldI .i64 H x4 0 (fun v3=>AC Tryz.prog T0 81 [x0,(Value.int .i64 v3)] H (fun v4 H5=>(ldI .i64 H5 x4 0 (fun v7=>ld1 H5 x4 1 (fun v8=>((Value.agg ⟨[(Value.int .i64 v7),v8]⟩)=(Value.agg ⟨[(Value.int .i64 v1),v2]⟩))∧(H5=H5))))∧(AC Tryz.prog T0 80 [(Value.agg ⟨[(Value.int .i64 v1),v2]⟩),v4] H5 (fun v9 H10=>agg2 v9 (fun v11 v12=>asI .i64 v11 (fun v13=>stK H10 x2 0 [(Value.int .i64 v13),v12] (fun H15=>ldI .i64 H15 x2 0 (fun v16=>ld1 H15 x2 1 (fun v17=>P (Value.agg ⟨[(Value.int .i64 v16),v17]⟩) H15)))))))))))
theorem q2 (P:PT):QT Tryz.prog T0 32 o2 (.op 0 [] (.op 1 [] (.op 2 [] (.op 3 [] (.op 4 [0] (.op 5 [] (.op 6 [] .done))))))) (ret P) k1 (B2 P):=fun _ _ _ _ _  => by kernel_rfl
abbrev k2:Sk:=[(0,.v),(2,.x),(3,.v)]
def o3:=O 106
def B3 (P:PT):Y k2:=fun x0 x2 x3 H=>
  lenK x3 (fun n1=>AC Tryz.prog T0 27 [x0,(Value.int .i64 (n1:Int))] H (fun v2 H3=>asI .i64 v2 (fun v4=>idxK x3 v4 1 (fun b5 o6=>ld1 H3 b5 o6 (fun v8=>asS v8 (fun v7=>AC Tryz.prog T0 79 [(Value.string v7)] H3 (fun v9 H10=>tup2 v9 (fun v11 v12=>agg2 v11 (fun v13 v14=>asI .i64 v13 (fun v15=>asB v12 (fun v17=>newK H10 [(Value.int .i64 0),(Value.slice none 0 0)] 26 (fun b18 H19=>stK H19 b18 0 [(Value.int .i64 v15),v14] (fun H20=>B2 P x0 x2 b18 H20)))))))))))))
theorem q3 P:Q o3 (E k1 (B2 P)) k2 (B3 P):=fun _ _ _ _ _=>by kernel_rfl
def o4:=O 52
def B4 (P:PT):Y k0:=fun x0 x2 H=>
  newK H [(Value.string (⟨#[116,104,101,116,97]⟩)),(Value.string (⟨#[107,52]⟩)),(Value.string (⟨#[107,51,51]⟩)),(Value.string (⟨#[112,114,105,115,109]⟩)),(Value.string (⟨#[99,117,98,101]⟩)),(Value.string (⟨#[112,101,116,101,114,115,101,110]⟩))] 9 (fun b1 H2=>B3 P x0 x2 (Value.slice (some ⟨b1,0,none⟩) 6 (6+1)) H2)
theorem q4 P:Q o4 (E k2 (B3 P)) k0 (B4 P):=fun _ _ _ _=>by kernel_rfl
def o5:=O 12
def B5 (P:PT):Y k0:=fun x0 x2 H=>
  AC Tryz.prog T0 27 [x0,(Value.int .i64 4)] H (fun v1 H2=>asI .i64 v1 (fun v3=>pif ((v3:Int)==0) (B4 P x0 x2 H2) (B1 P x0 x2 H2)))
theorem q5 P:Q o5 (cnd 8 (E k0 (B4 P)) (E k0 (B1 P))) k0 (B5 P):=fun _ _ _ _=>by kernel_rfl
abbrev k3:Sk:=[(0,.v)]
def o6:=O 2
def B6 (P:PT):Y k3:=fun x0 H=>
  newK H [(Value.int .i64 0),(Value.slice none 0 0)] 26 (fun b1 H2=>B5 P x0 b1 H2)
theorem q6 P:Q o6 (E k0 (B5 P)) k3 (B6 P):=fun _ _ _=>by kernel_rfl
def code:Code:=(.seq (R 0 o6) (.seq (.seq (R 1 o5) (.cond (.tmp 8) (.seq (R 2 o4) (.seq (R 3 o3) (.seq (.region 4 ⟨o2⟩ true) .ret))) .skip)) (.seq (R 5 o1) .ret)))
theorem body:Tryz.f68.body=some code:=by kernel_rfl
theorem main (P:PT):∀ env H,(En 32 k3 (B6 P)) env H→AW Tryz.prog T0 code env H (M (ret P)):=
  (r_seq (b (q6 P)) (r_seq (r_seq (b (q5 P)) (r_cond rfl (r_seq (b (q4 P)) (r_seq (b (q3 P)) (r_seq (rT T0_ok mixed (.op 0 [] (.op 1 [] (.op 2 [] (.op 3 [] (.op 4 [0] (.op 5 [] (.op 6 [] .done))))))) (by kernel_rfl) (q2 P)) r_ret))) r_skip)) (r_seq (b (q1 P)) r_ret)))
theorem ac (P:PT) (x0:Value) (H:AHeap) (h:B6 P x0 H):AC Tryz.prog T0 68 [x0] H P:=
  r_fn T0_ok (c:=code) (n:=32) Tryz.func68 body (by kernel_rfl) (main P) (En_mk (x0,()) (by kernel_rfl) ⟨by kernel_rfl,trivial⟩ h)

end F68
namespace F69
abbrev E:=En 11
abbrev Q:=QB Tryz.prog T0 11
def O (k:Nat):=ob Tryz.f69 (pth k)
def ret (P:PT):EP:=retE T0 11 Tryz.f69 P
abbrev k0:Sk:=[(1,.v)]
def o1:=O 14
def B1 (P:PT):Y k0:=fun x1 H=>
  asP x1 (fun b1 o2=>ld1 H b1 o2 (fun v3=>lenK v3 (fun n4=>P (Value.bool (decide (((n4:Int):Int)>60))) H)))
theorem q1 P:Q o1 (ret P) k0 (B1 P):=fun _ _ _=>by kernel_rfl
abbrev k1:Sk:=[(0,.i .u64),(1,.v)]
def o2:=O 6
def B2 (P:PT):Y k1:=fun x0 x1 H=>
  asP x1 (fun b1 o2=>ld1 H b1 o2 (fun v3=>newK H [(Value.int .u64 x0)] 45 (fun b4 H5=>apK T0 45 H5 v3 (Value.slice (some ⟨b4,0,none⟩) 1 (1+1)) (fun v6 H7=>pif (Value.oneCell' v6) (asP x1 (fun b8 o9=>stK H7 b8 o9 [v6] (fun H10=>B1 P x1 H10))) False))))
theorem q2 P:Q o2 (E k0 (B1 P)) k1 (B2 P):=fun _ _ _ _=>by kernel_rfl
def o3:=O 2
def B3 (P:PT):Y k1:=fun x0 x1 H=>
  B2 P x0 x1 H
theorem q3 P:Q o3 (E k1 (B2 P)) k1 (B3 P):=fun _ _ _ _=>by kernel_rfl
def code:Code:=(.seq (R 0 o3) (.seq (R 1 o2) (.seq (R 2 o1) .ret)))
theorem body:Tryz.f69.body=some code:=by kernel_rfl
theorem main (P:PT):∀ env H,(En 11 k1 (B3 P)) env H→AW Tryz.prog T0 code env H (M (ret P)):=
  (r_seq (b (q3 P)) (r_seq (b (q2 P)) (r_seq (b (q1 P)) r_ret)))
theorem ac (P:PT) (x0:Int) (x1:Value) (H:AHeap) (h:B3 P x0 x1 H):AC Tryz.prog T0 69 [(Value.int .u64 x0),x1] H P:=
  r_fn T0_ok (c:=code) (n:=11) Tryz.func69 body (by kernel_rfl) (main P) (En_mk (x0,x1,()) (by kernel_rfl) ⟨by kernel_rfl,by kernel_rfl,trivial⟩ h)

end F69
namespace F70
abbrev E:=En 19
abbrev Q:=QB Tryz.prog T0 19
def O (k:Nat):=ob Tryz.f70 (pth k)
def ret (P:PT):EP:=retE T0 19 Tryz.f70 P
abbrev k0:Sk:=[]
def o1:=O 14
def B1 (P:PT):Y k0:=fun H=>
  P (Value.int .i64 (-1)) H
theorem q1 P:Q o1 (ret P) k0 (B1 P):=fun _ _=>by kernel_rfl
abbrev k1:Sk:=[(0,.v),(1,.v),(7,J),(8,J)]
def o3:=O 423
def B3 (P:PT) (N2:Y k1):Y k1:=fun x0 x1 x7 x8 H=>
  N2 x0 x1 x7 (IntKind.i64.wrap (x8+1)) H
theorem q3 P N2:Q o3 (E k1 N2) k1 (B3 P N2):=fun _ _ _ _ _ _=>by kernel_rfl
abbrev k2:Sk:=[(5,J)]
def o4:=O 13516
def B4 (P:PT) (N2:Y k1):Y k2:=fun x5 H=>
  P (Value.int .i64 x5) H
theorem q4 P N2:Q o4 (ret P) k2 (B4 P N2):=fun _ _ _=>by kernel_rfl
abbrev k3:Sk:=[(0,.v),(1,.v),(5,J),(7,J),(8,J)]
def o5:=O 3378
def B5 (P:PT) (N2:Y k1):Y k3:=fun x0 x1 x5 x7 x8 H=>
  idxK x0 x5 1 (fun b1 o2=>ldI .u64 H b1 o2 (fun v3=>callV Tryz.prog T0 x1 [(Value.int .u64 v3)] H (fun v4 H5=>asB v4 (fun v6=>pif v6 (B4 P N2 x5 H5) (B3 P N2 x0 x1 x7 x8 H5)))))
theorem q5 P N2:Q o5 (cnd 16 (E k2 (B4 P N2)) (E k1 (B3 P N2))) k3 (B5 P N2):=fun _ _ _ _ _ _ _=>by kernel_rfl
def o6:=O 1688
def B6 (P:PT) (N2:Y k1):Y k1:=fun x0 x1 x7 x8 H=>
  B5 P N2 x0 x1 x8 x7 x8 H
theorem q6 P N2:Q o6 (E k3 (B5 P N2)) k1 (B6 P N2):=fun _ _ _ _ _ _=>by kernel_rfl
def o7:=O 104
def B7 (P:PT) (N2:Y k1):Y k1:=fun x0 x1 x7 x8 H=>
  pif (decide ((x8:Int)<x7)) (B6 P N2 x0 x1 x7 x8 H) (B1 P H)
theorem q7 P N2:Q o7 (cnd 9 (E k1 (B6 P N2)) (E k0 (B1 P))) k1 (B7 P N2):=fun _ _ _ _ _ _=>by kernel_rfl
def L2 (P:PT):Y k1:=fun x0 x1 x7 x8 H=>
  ∃ (I:Y k1) (μ:NTy k1 (AHeap→Nat)),I x0 x1 x7 x8 H∧∀ y0 y1 y7 y8 G,I y0 y1 y7 y8 G→B7 P (fun z0 z1 z7 z8 G'=>I z0 z1 z7 z8 G'∧μ z0 z1 z7 z8 G'<μ y0 y1 y7 y8 G) y0 y1 y7 y8 G
theorem l2 P:LQ k1 (L2 P) (B7 P):=fun ⟨_,_,_,_,_⟩ _ ⟨I,μ,h0,hI⟩=>⟨apT _ I,apT _ μ,h0,fun ⟨_,_,_,_,_⟩ _ h=>hI _ _ _ _ _  h⟩
abbrev k4:Sk:=[(0,.v),(1,.v)]
def o8:=O 12
def B8 (P:PT):Y k4:=fun x0 x1 H=>
  lenK x0 (fun n1=>L2 P x0 x1 (n1:Int) 0 H)
theorem q8 P:Q o8 (E k1 (L2 P)) k4 (B8 P):=fun _ _ _ _=>by kernel_rfl
def o9:=O 2
def B9 (P:PT):Y k4:=fun x0 x1 H=>
  B8 P x0 x1 H
theorem q9 P:Q o9 (E k4 (B8 P)) k4 (B9 P):=fun _ _ _ _=>by kernel_rfl
def code:Code:=(.seq (R 0 o9) (.seq (.seq (R 1 o8) (.block 0 (.loop (.seq (R 2 o7) (.seq (.cond (.tmp 9) .skip (.exit 0)) (.seq (.block 1 (.seq (R 3 o6) (.seq (R 4 o5) (.cond (.tmp 16) (.seq (R 5 o4) .ret) .skip)))) (R 6 o3))))))) (.seq (R 7 o1) .ret)))
theorem body:Tryz.f70.body=some code:=by kernel_rfl
theorem main (P:PT):∀ env H,(En 19 k4 (B9 P)) env H→AW Tryz.prog T0 code env H (M (ret P)):=
  (r_seq (b (q9 P)) (r_seq (r_seq (b (q8 P)) (r_block (rL (l2 P) (fun N2=>(r_seq (b (q7 P N2)) (r_seq (r_cond rfl r_skip (r_exit (fun _ _ h=>h))) (r_seq (r_block (r_seq (b (q6 P N2)) (r_seq (b (q5 P N2)) (r_cond rfl (r_seq (b (q4 P N2)) r_ret) r_skip)))) (b (q3 P N2))))))))) (r_seq (b (q1 P)) r_ret)))
theorem ac (P:PT) (x0 x1:Value) (H:AHeap) (h:B9 P x0 x1 H):AC Tryz.prog T0 70 [x0,x1] H P:=
  r_fn T0_ok (c:=code) (n:=19) Tryz.func70 body (by kernel_rfl) (main P) (En_mk (x0,x1,()) (by kernel_rfl) ⟨by kernel_rfl,by kernel_rfl,trivial⟩ h)

end F70
namespace F71
abbrev E:=En 77
abbrev Q:=QB Tryz.prog T0 77
def O (k:Nat):=ob Tryz.f71 (pth k)
def ret (P:PT):EP:=retE T0 77 Tryz.f71 P
abbrev k0:Sk:=[(3,.v)]
def o1:=O 254
def B1 (P:PT):Y k0:=fun x3 H=>
  P x3 H
theorem q1 P:Q o1 (ret P) k0 (B1 P):=fun _ _ _=>by kernel_rfl
abbrev k1:Sk:=[(1,.v),(2,J),(3,.v),(4,.x),(9,J),(10,.v),(11,J)]
def o3:=O 4051
def B3 (P:PT) (N2:Y k1):Y k1:=fun x1 x2 x3 x4 x9 x10 x11 H=>
  N2 x1 x2 x3 x4 x9 x10 (IntKind.i64.wrap (x11+1)) H
theorem q3 P N2:Q o3 (E k1 N2) k1 (B3 P N2):=fun _ _ _ _ _ _ _ _ _=>by kernel_rfl
abbrev k2:Sk:=[(1,.v),(2,J),(3,.v),(4,.x),(9,J),(10,.v),(11,J),(12,J)]
def o4:=O 64806
def B4 (P:PT) (N2:Y k1):Y k2:=fun x1 x2 x3 x4 x9 x10 x11 x12 H=>
  ldI .i64 H x4 0 (fun v1=>ld1 H x4 1 (fun v2=>idxK x10 x11 1 (fun b3 o4=>ldI .i64 H b3 o4 (fun v5=>((0:Int)≤(IntKind.u64.wrap x9))∧(((0:Int)≤(IntKind.u64.wrap x12))∧((AC Tryz.prog T0 98 [x1] H (fun v6 H7=>(ldI .i64 H7 x4 0 (fun v9=>ld1 H7 x4 1 (fun v10=>((Value.agg ⟨[(Value.int .i64 v9),v10]⟩)=(Value.agg ⟨[(Value.int .i64 v1),v2]⟩))∧(H7=H7))))∧((ldI .i64 H7 b3 o4 (fun v11=>((Value.int .i64 v11)=(Value.int .i64 v5))∧(H7=H7)))∧(newK H7 [(Value.int .i64 v5)] 2 (fun b12 H13=>apK T0 2 H13 v6 (Value.slice (some ⟨b12,0,none⟩) 1 (1+1)) (fun v14 H15=>(ldI .i64 H15 x4 0 (fun v16=>ld1 H15 x4 1 (fun v17=>((Value.agg ⟨[(Value.int .i64 v16),v17]⟩)=(Value.agg ⟨[(Value.int .i64 v1),v2]⟩))∧(H15=H15))))∧(AC Tryz.prog T0 71 [(Value.agg ⟨[(Value.int .i64 v1),v2]⟩),v14,(Value.int .i64 (IntKind.i64.wrap (BitVec.ofInt 64 (IntKind.i64.wrap (BitVec.ofInt 64 x2|||BitVec.ofInt 64 (IntKind.i64.wrap (1*2^(min (Int.toNat (IntKind.u64.wrap x9)) 64)))).toNat)|||BitVec.ofInt 64 (IntKind.i64.wrap (1*2^(min (Int.toNat (IntKind.u64.wrap x12)) 64)))).toNat)),x3] H15 (fun v18 H19=>B3 P N2 x1 x2 v18 x4 x9 x10 x11 H19))))))))∧(newK H [(Value.int .i64 v5)] 2 (fun b21 H22=>AC Tryz.prog T0 98 [x1] H22 (fun v23 H24=>(ldI .i64 H24 x4 0 (fun v26=>ld1 H24 x4 1 (fun v27=>((Value.agg ⟨[(Value.int .i64 v26),v27]⟩)=(Value.agg ⟨[(Value.int .i64 v1),v2]⟩))∧(H24=H24))))∧((ldI .i64 H24 b3 o4 (fun v28=>((Value.int .i64 v28)=(Value.int .i64 v5))∧(H24=H24)))∧(apK T0 2 H24 v23 (Value.slice (some ⟨b21,0,none⟩) 1 (1+1)) (fun v29 H30=>(ldI .i64 H30 x4 0 (fun v31=>ld1 H30 x4 1 (fun v32=>((Value.agg ⟨[(Value.int .i64 v31),v32]⟩)=(Value.agg ⟨[(Value.int .i64 v1),v2]⟩))∧(H30=H30))))∧(AC Tryz.prog T0 71 [(Value.agg ⟨[(Value.int .i64 v1),v2]⟩),v29,(Value.int .i64 (IntKind.i64.wrap (BitVec.ofInt 64 (IntKind.i64.wrap (BitVec.ofInt 64 x2|||BitVec.ofInt 64 (IntKind.i64.wrap (1*2^(min (Int.toNat (IntKind.u64.wrap x9)) 64)))).toNat)|||BitVec.ofInt 64 (IntKind.i64.wrap (1*2^(min (Int.toNat (IntKind.u64.wrap x12)) 64)))).toNat)),x3] H30 (fun v33 H34=>B3 P N2 x1 x2 v33 x4 x9 x10 x11 H34))))))))))))))
theorem q4 (P:PT) (N2:Y k1):QT Tryz.prog T0 77 o4 (.op 0 [] (.op 1 [] (.op 3 [] (.op 4 [] (.op 5 [] (.op 6 [] (.op 9 [] (.op 10 [] (.op 11 [] (.op 12 [] (.op 13 [] (.op 14 [] (.op 15 [] (.op 16 [] (.op 17 [] (.op 18 [] (.alt (.op 2 [0,6] (.op 7 [] (.op 8 [0] (.op 19 [] (.op 20 [] .done))))) (.op 7 [] (.op 2 [0,6] (.op 8 [0] (.op 19 [] (.op 20 [] .done)))))))))))))))))))))) (En 77 k1 (B3 P N2)) k2 (B4 P N2):=fun _ _ _ _ _ _ _ _ _ _  => by kernel_rfl
def o5:=O 32402
def B5 (P:PT) (N2:Y k1):Y k2:=fun x1 x2 x3 x4 x9 x10 x11 x12 H=>
  ((0:Int)≤(IntKind.u64.wrap x12))∧(pif ((IntKind.i64.wrap (BitVec.ofInt 64 (Int.fdiv x2 (2^(min (Int.toNat (IntKind.u64.wrap x12)) 64)))&&&BitVec.ofInt 64 1).toNat:Int)==0) (B4 P N2 x1 x2 x3 x4 x9 x10 x11 x12 H) (B3 P N2 x1 x2 x3 x4 x9 x10 x11 H))
theorem q5 P N2:Q o5 (cnd 55 (E k2 (B4 P N2)) (E k1 (B3 P N2))) k2 (B5 P N2):=fun _ _ _ _ _ _ _ _ _ _=>by kernel_rfl
def o6:=O 16200
def B6 (P:PT) (N2:Y k1):Y k1:=fun x1 x2 x3 x4 x9 x10 x11 H=>
  ldI .i64 H x4 0 (fun v1=>ld1 H x4 1 (fun v2=>idxK x10 x11 1 (fun b3 o4=>ldI .i64 H b3 o4 (fun v5=>AC Tryz.prog T0 67 [(Value.agg ⟨[(Value.int .i64 v1),v2]⟩),(Value.int .i64 v5),(Value.int .i64 x9)] H (fun v6 H7=>asI .i64 v6 (fun v8=>B5 P N2 x1 x2 x3 x4 x9 x10 x11 v8 H7))))))
theorem q6 (P:PT) (N2:Y k1):QD Tryz.prog T0 77 o6 [(0,false),(1,false),(2,false),(3,false),(4,false),(5,false),(6,false),(7,false)] (En 77 k2 (B5 P N2)) k1 (B6 P N2):=fun _ _ _ _ _ _ _ _ _  => by kernel_rfl
def o7:=O 4048
def B7 (P:PT) (N2:Y k1):Y k1:=fun x1 x2 x3 x4 x9 x10 x11 H=>
  pif (decide ((x11:Int)<3)) (B6 P N2 x1 x2 x3 x4 x9 x10 x11 H) (B1 P x3 H)
theorem q7 P N2:Q o7 (cnd 40 (E k1 (B6 P N2)) (E k0 (B1 P))) k1 (B7 P N2):=fun _ _ _ _ _ _ _ _ _=>by kernel_rfl
def L2 (P:PT):Y k1:=fun x1 x2 x3 x4 x9 x10 x11 H=>
  ∃ (I:Y k1) (μ:NTy k1 (AHeap→Nat)),I x1 x2 x3 x4 x9 x10 x11 H∧∀ y1 y2 y3 y4 y9 y10 y11 G,I y1 y2 y3 y4 y9 y10 y11 G→B7 P (fun z1 z2 z3 z4 z9 z10 z11 G'=>I z1 z2 z3 z4 z9 z10 z11 G'∧μ z1 z2 z3 z4 z9 z10 z11 G'<μ y1 y2 y3 y4 y9 y10 y11 G) y1 y2 y3 y4 y9 y10 y11 G
theorem l2 P:LQ k1 (L2 P) (B7 P):=fun ⟨_,_,_,_,_,_,_,_⟩ _ ⟨I,μ,h0,hI⟩=>⟨apT _ I,apT _ μ,h0,fun ⟨_,_,_,_,_,_,_,_⟩ _ h=>hI _ _ _ _ _ _ _ _  h⟩
abbrev k3:Sk:=[(1,.v),(2,J),(3,.v),(4,.x),(9,J),(10,.v)]
def o8:=O 252
def B8 (P:PT):Y k3:=fun x1 x2 x3 x4 x9 x10 H=>
  L2 P x1 x2 x3 x4 x9 x10 0 H
theorem q8 P:Q o8 (E k1 (L2 P)) k3 (B8 P):=fun _ _ _ _ _ _ _ _=>by kernel_rfl
abbrev k4:Sk:=[(1,.v),(2,J),(3,.v),(4,.x),(9,J)]
def o9:=O 62
def B9 (P:PT):Y k4:=fun x1 x2 x3 x4 x9 H=>
  ldI .i64 H x4 0 (fun v1=>ld1 H x4 1 (fun v2=>AC Tryz.prog T0 66 [(Value.agg ⟨[(Value.int .i64 v1),v2]⟩),(Value.int .i64 x9)] H (fun v3 H4=>B8 P x1 x2 x3 x4 x9 v3 H4)))
theorem q9 P:Q o9 (E k3 (B8 P)) k4 (B9 P):=fun _ _ _ _ _ _ _=>by kernel_rfl
abbrev k5:Sk:=[(1,.v),(3,.v)]
def o10:=O 244
def B10 (P:PT):Y k5:=fun x1 x3 H=>
  AC Tryz.prog T0 98 [x1] H (fun v1 H2=>pif (Value.oneCell' v1) (newK H2 [v1] 30 (fun b4 H5=>apK T0 30 H5 x3 (Value.slice (some ⟨b4,0,none⟩) 1 (1+1)) (fun v6 H7=>P v6 H7))) False)
theorem q10 P:Q o10 (ret P) k5 (B10 P):=fun _ _ _ _=>by kernel_rfl
def o11:=O 60
def B11 (P:PT):Y k4:=fun x1 x2 x3 x4 x9 H=>
  ldI .i64 H x4 0 (fun v1=>pif ((x9:Int)==v1) (B10 P x1 x3 H) (B9 P x1 x2 x3 x4 x9 H))
theorem q11 P:Q o11 (cnd 30 (E k5 (B10 P)) (E k4 (B9 P))) k4 (B11 P):=fun _ _ _ _ _ _ _=>by kernel_rfl
def o13:=O 226
def B13 (P:PT) (N12:Y k4):Y k4:=fun x1 x2 x3 x4 x9 H=>
  N12 x1 x2 x3 x4 (IntKind.i64.wrap (x9+1)) H
theorem q13 P N12:Q o13 (E k4 N12) k4 (B13 P N12):=fun _ _ _ _ _ _ _=>by kernel_rfl
def o14:=O 224
def B14 (P:PT) (N12:Y k4):Y k4:=fun x1 x2 x3 x4 x9 H=>
  ldI .i64 H x4 0 (fun v1=>pif (decide ((x9:Int)<v1)) (((0:Int)≤(IntKind.u64.wrap x9))∧(pif ((IntKind.i64.wrap (BitVec.ofInt 64 (Int.fdiv x2 (2^(min (Int.toNat (IntKind.u64.wrap x9)) 64)))&&&BitVec.ofInt 64 1).toNat:Int)==1) (B13 P N12 x1 x2 x3 x4 x9 H) (B11 P x1 x2 x3 x4 x9 H))) (B11 P x1 x2 x3 x4 x9 H))
theorem q14 P N12:Q o14 (cnd 24 (E k4 (B13 P N12)) (E k4 (B11 P))) k4 (B14 P N12):=fun _ _ _ _ _ _ _=>by kernel_rfl
def L12 (P:PT):Y k4:=fun x1 x2 x3 x4 x9 H=>
  ∃ (I:Y k4) (μ:NTy k4 (AHeap→Nat)),I x1 x2 x3 x4 x9 H∧∀ y1 y2 y3 y4 y9 G,I y1 y2 y3 y4 y9 G→B14 P (fun z1 z2 z3 z4 z9 G'=>I z1 z2 z3 z4 z9 G'∧μ z1 z2 z3 z4 z9 G'<μ y1 y2 y3 y4 y9 G) y1 y2 y3 y4 y9 G
theorem l12 P:LQ k4 (L12 P) (B14 P):=fun ⟨_,_,_,_,_,_⟩ _ ⟨I,μ,h0,hI⟩=>⟨apT _ I,apT _ μ,h0,fun ⟨_,_,_,_,_,_⟩ _ h=>hI _ _ _ _ _ _  h⟩
abbrev k6:Sk:=[(1,.v),(2,J),(3,.v),(4,.x)]
def o15:=O 6
def B15 (P:PT):Y k6:=fun x1 x2 x3 x4 H=>
  L12 P x1 x2 x3 x4 0 H
theorem q15 P:Q o15 (E k4 (L12 P)) k6 (B15 P):=fun _ _ _ _ _ _=>by kernel_rfl
abbrev k7:Sk:=[(0,.g [.i,.v]),(1,.v),(2,J),(3,.v)]
def o16:=O 2
def B16 (P:PT):Y k7:=fun x0a x0b x1 x2 x3 H=>
  newK H [(Value.int .i64 x0a),x0b] 26 (fun b1 H2=>B15 P x1 x2 x3 b1 H2)
theorem q16 P:Q o16 (E k6 (B15 P)) k7 (B16 P):=fun _ _ _ _ _ _ _=>by kernel_rfl
def code:Code:=(.seq (R 0 o16) (.seq (R 1 o15) (.seq (.block 0 (.loop (.seq (.seq (R 2 o14) (.cond (.tmp 24) .skip (.exit 0))) (.block 1 (R 3 o13))))) (.seq (.seq (R 4 o11) (.cond (.tmp 30) (.seq (R 5 o10) .ret) .skip)) (.seq (R 6 o9) (.seq (.seq (R 7 o8) (.block 2 (.loop (.seq (.seq (R 8 o7) (.cond (.tmp 40) .skip (.exit 2))) (.seq (.block 3 (.seq (.region 10 ⟨o6⟩ true) (.seq (R 11 o5) (.cond (.tmp 55) (.region 12 ⟨o4⟩ true) .skip)))) (R 9 o3)))))) (.seq (R 13 o1) .ret)))))))
theorem body:Tryz.f71.body=some code:=by kernel_rfl
theorem main (P:PT):∀ env H,(En 77 k7 (B16 P)) env H→AW Tryz.prog T0 code env H (M (ret P)):=
  (r_seq (b (q16 P)) (r_seq (b (q15 P)) (r_seq (r_block (rL (l12 P) (fun N12=>(r_seq (r_seq (b (q14 P N12)) (r_cond rfl r_skip (r_exit (fun _ _ h=>h)))) (r_block (b (q13 P N12))))))) (r_seq (r_seq (b (q11 P)) (r_cond rfl (r_seq (b (q10 P)) r_ret) r_skip)) (r_seq (b (q9 P)) (r_seq (r_seq (b (q8 P)) (r_block (rL (l2 P) (fun N2=>(r_seq (r_seq (b (q7 P N2)) (r_cond rfl r_skip (r_exit (fun _ _ h=>h)))) (r_seq (r_block (r_seq (rD T0_ok mixed [(0,false),(1,false),(2,false),(3,false),(4,false),(5,false),(6,false),(7,false)] (by kernel_rfl) (q6 P N2)) (r_seq (b (q5 P N2)) (r_cond rfl (rT T0_ok mixed (.op 0 [] (.op 1 [] (.op 3 [] (.op 4 [] (.op 5 [] (.op 6 [] (.op 9 [] (.op 10 [] (.op 11 [] (.op 12 [] (.op 13 [] (.op 14 [] (.op 15 [] (.op 16 [] (.op 17 [] (.op 18 [] (.alt (.op 2 [0,6] (.op 7 [] (.op 8 [0] (.op 19 [] (.op 20 [] .done))))) (.op 7 [] (.op 2 [0,6] (.op 8 [0] (.op 19 [] (.op 20 [] .done)))))))))))))))))))))) (by kernel_rfl) (q4 P N2)) r_skip)))) (b (q3 P N2)))))))) (r_seq (b (q1 P)) r_ret)))))))
theorem ac (P:PT) (x0a:Int) (x0b x1:Value) (x2:Int) (x3:Value) (H:AHeap) (h:B16 P x0a x0b x1 x2 x3 H):AC Tryz.prog T0 71 [(Value.agg ⟨[(Value.int .i64 x0a),x0b]⟩),x1,(Value.int .i64 x2),x3] H P:=
  r_fn T0_ok (c:=code) (n:=77) Tryz.func71 body (by kernel_rfl) (main P) (En_mk (x0a,x0b,x1,x2,x3,()) (by kernel_rfl) ⟨by kernel_rfl,by kernel_rfl,by kernel_rfl,by kernel_rfl,trivial⟩ h)

end F71
namespace F72
abbrev E:=En 42
abbrev Q:=QB Tryz.prog T0 42
def O (k:Nat):=ob Tryz.f72 (pth k)
def ret (P:PT):EP:=retE T0 42 Tryz.f72 P
abbrev k0:Sk:=[(3,.v)]
def o1:=O 30
def B1 (P:PT):Y k0:=fun x3 H=>
  P x3 H
theorem q1 P:Q o1 (ret P) k0 (B1 P):=fun _ _ _=>by kernel_rfl
abbrev k1:Sk:=[(1,.x),(3,.v),(11,.v),(12,J),(13,J)]
def o3:=O 935
def B3 (P:PT) (N2:Y k1):Y k1:=fun x1 x3 x11 x12 x13 H=>
  N2 x1 x3 x11 x12 (IntKind.i64.wrap (x13+1)) H
theorem q3 P N2:Q o3 (E k1 N2) k1 (B3 P N2):=fun _ _ _ _ _ _ _=>by kernel_rfl
abbrev k2:Sk:=[(1,.x),(3,.v),(7,.v),(11,.v),(12,J),(13,J)]
def o4:=O 29903
def B4 (P:PT) (N2:Y k1):Y k2:=fun x1 x3 x7 x11 x12 x13 H=>
  pif (Value.oneCell' x7) (newK H [x7] 30 (fun b1 H2=>apK T0 30 H2 x3 (Value.slice (some ⟨b1,0,none⟩) 1 (1+1)) (fun v3 H4=>B3 P N2 x1 v3 x11 x12 x13 H4))) False
theorem q4 P N2:Q o4 (E k1 (B3 P N2)) k2 (B4 P N2):=fun _ _ _ _ _ _ _ _=>by kernel_rfl
abbrev k3:Sk:=[(1,.x),(3,.v),(6,.i .u64),(7,.v),(11,.v),(12,J),(13,J),(20,.v),(21,J),(22,J)]
def o6:=O 1913767
def B6 (P:PT) (N2:Y k1) (N5:Y k3):Y k3:=fun x1 x3 x6 x7 x11 x12 x13 x20 x21 x22 H=>
  N5 x1 x3 x6 x7 x11 x12 x13 x20 x21 (IntKind.i64.wrap (x22+1)) H
theorem q6 P N2 N5:Q o6 (E k3 N5) k3 (B6 P N2 N5):=fun _ _ _ _ _ _ _ _ _ _ _ _=>by kernel_rfl
abbrev k4:Sk:=[(1,.x),(3,.v),(6,.i .u64),(7,.v),(8,J),(11,.v),(12,J),(13,J),(20,.v),(21,J),(22,J)]
def o7:=O 30620262
def B7 (P:PT) (N2:Y k1) (N5:Y k3):Y k4:=fun x1 x3 x6 x7 x8 x11 x12 x13 x20 x21 x22 H=>
  newK H [(Value.int .i64 x8)] 2 (fun b1 H2=>apK T0 2 H2 x7 (Value.slice (some ⟨b1,0,none⟩) 1 (1+1)) (fun v3 H4=>B6 P N2 N5 x1 x3 x6 v3 x11 x12 x13 x20 x21 x22 H4))
theorem q7 P N2 N5:Q o7 (E k3 (B6 P N2 N5)) k4 (B7 P N2 N5):=fun _ _ _ _ _ _ _ _ _ _ _ _ _=>by kernel_rfl
abbrev k5:Sk:=[(1,.x),(3,.v),(6,.i .u64),(7,.v),(8,J),(9,.x),(11,.v),(12,J),(13,J),(20,.v),(21,J),(22,J)]
def o8:=O 15310130
def B8 (P:PT) (N2:Y k1) (N5:Y k3):Y k5:=fun x1 x3 x6 x7 x8 x9 x11 x12 x13 x20 x21 x22 H=>
  ldI .i64 H x9 0 (fun v1=>AC Tryz.prog T0 42 [(Value.int .u64 x6),(Value.int .i64 v1)] H (fun v2 H3=>asB v2 (fun v4=>pif v4 (B7 P N2 N5 x1 x3 x6 x7 x8 x11 x12 x13 x20 x21 x22 H3) (B6 P N2 N5 x1 x3 x6 x7 x11 x12 x13 x20 x21 x22 H3))))
theorem q8 P N2 N5:Q o8 (cnd 30 (E k4 (B7 P N2 N5)) (E k3 (B6 P N2 N5))) k5 (B8 P N2 N5):=fun _ _ _ _ _ _ _ _ _ _ _ _ _ _=>by kernel_rfl
def o9:=O 7655064
def B9 (P:PT) (N2:Y k1) (N5:Y k3):Y k3:=fun x1 x3 x6 x7 x11 x12 x13 x20 x21 x22 H=>
  idxK x20 x22 2 (fun b1 o2=>ldI .i64 H b1 o2 (fun v3=>ldI .i64 H b1 (o2+1) (fun v4=>newK H [(Value.int .i64 0),(Value.int .i64 0)] 84 (fun b5 H6=>stK H6 b5 0 [(Value.int .i64 v3),(Value.int .i64 v4)] (fun H7=>B8 P N2 N5 x1 x3 x6 x7 x22 b5 x11 x12 x13 x20 x21 x22 H7)))))
theorem q9 P N2 N5:Q o9 (E k5 (B8 P N2 N5)) k3 (B9 P N2 N5):=fun _ _ _ _ _ _ _ _ _ _ _ _=>by kernel_rfl
def o10:=O 478440
def B10 (P:PT) (N2:Y k1) (N5:Y k3):Y k3:=fun x1 x3 x6 x7 x11 x12 x13 x20 x21 x22 H=>
  pif (decide ((x22:Int)<x21)) (B9 P N2 N5 x1 x3 x6 x7 x11 x12 x13 x20 x21 x22 H) (B4 P N2 x1 x3 x7 x11 x12 x13 H)
theorem q10 P N2 N5:Q o10 (cnd 23 (E k3 (B9 P N2 N5)) (E k2 (B4 P N2))) k3 (B10 P N2 N5):=fun _ _ _ _ _ _ _ _ _ _ _ _=>by kernel_rfl
def L5 (P:PT) (N2:Y k1):Y k3:=fun x1 x3 x6 x7 x11 x12 x13 x20 x21 x22 H=>
  ∃ (I:Y k3) (μ:NTy k3 (AHeap→Nat)),I x1 x3 x6 x7 x11 x12 x13 x20 x21 x22 H∧∀ y1 y3 y6 y7 y11 y12 y13 y20 y21 y22 G,I y1 y3 y6 y7 y11 y12 y13 y20 y21 y22 G→B10 P N2 (fun z1 z3 z6 z7 z11 z12 z13 z20 z21 z22 G'=>I z1 z3 z6 z7 z11 z12 z13 z20 z21 z22 G'∧μ z1 z3 z6 z7 z11 z12 z13 z20 z21 z22 G'<μ y1 y3 y6 y7 y11 y12 y13 y20 y21 y22 G) y1 y3 y6 y7 y11 y12 y13 y20 y21 y22 G
theorem l5 P N2:LQ k3 (L5 P N2) (B10 P N2):=fun ⟨_,_,_,_,_,_,_,_,_,_,_⟩ _ ⟨I,μ,h0,hI⟩=>⟨apT _ I,apT _ μ,h0,fun ⟨_,_,_,_,_,_,_,_,_,_,_⟩ _ h=>hI _ _ _ _ _ _ _ _ _ _ _  h⟩
abbrev k6:Sk:=[(1,.x),(3,.v),(6,.i .u64),(7,.v),(11,.v),(12,J),(13,J)]
def o11:=O 59804
def B11 (P:PT) (N2:Y k1):Y k6:=fun x1 x3 x6 x7 x11 x12 x13 H=>
  ld1 H x1 1 (fun v1=>lenK v1 (fun n2=>L5 P N2 x1 x3 x6 x7 x11 x12 x13 v1 (n2:Int) 0 H))
theorem q11 P N2:Q o11 (E k3 (L5 P N2)) k6 (B11 P N2):=fun _ _ _ _ _ _ _ _ _=>by kernel_rfl
abbrev k7:Sk:=[(1,.x),(3,.v),(6,.i .u64),(11,.v),(12,J),(13,J)]
def o12:=O 14950
def B12 (P:PT) (N2:Y k1):Y k7:=fun x1 x3 x6 x11 x12 x13 H=>
  B11 P N2 x1 x3 x6 (Value.slice none 0 0) x11 x12 x13 H
theorem q12 P N2:Q o12 (E k6 (B11 P N2)) k7 (B12 P N2):=fun _ _ _ _ _ _ _ _=>by kernel_rfl
abbrev k8:Sk:=[(1,.x),(3,.v),(5,.v),(11,.v),(12,J),(13,J)]
def o13:=O 7474
def B13 (P:PT) (N2:Y k1):Y k8:=fun x1 x3 x5 x11 x12 x13 H=>
  AC Tryz.prog T0 29 [x5] H (fun v1 H2=>asI .u64 v1 (fun v3=>B12 P N2 x1 x3 v3 x11 x12 x13 H2))
theorem q13 P N2:Q o13 (E k7 (B12 P N2)) k8 (B13 P N2):=fun _ _ _ _ _ _ _ _=>by kernel_rfl
def o14:=O 3736
def B14 (P:PT) (N2:Y k1):Y k1:=fun x1 x3 x11 x12 x13 H=>
  idxK x11 x13 1 (fun b1 o2=>ld1 H b1 o2 (fun v3=>B13 P N2 x1 x3 v3 x11 x12 x13 H))
theorem q14 P N2:Q o14 (E k8 (B13 P N2)) k1 (B14 P N2):=fun _ _ _ _ _ _ _=>by kernel_rfl
def o15:=O 232
def B15 (P:PT) (N2:Y k1):Y k1:=fun x1 x3 x11 x12 x13 H=>
  pif (decide ((x13:Int)<x12)) (B14 P N2 x1 x3 x11 x12 x13 H) (B1 P x3 H)
theorem q15 P N2:Q o15 (cnd 14 (E k1 (B14 P N2)) (E k0 (B1 P))) k1 (B15 P N2):=fun _ _ _ _ _ _ _=>by kernel_rfl
def L2 (P:PT):Y k1:=fun x1 x3 x11 x12 x13 H=>
  ∃ (I:Y k1) (μ:NTy k1 (AHeap→Nat)),I x1 x3 x11 x12 x13 H∧∀ y1 y3 y11 y12 y13 G,I y1 y3 y11 y12 y13 G→B15 P (fun z1 z3 z11 z12 z13 G'=>I z1 z3 z11 z12 z13 G'∧μ z1 z3 z11 z12 z13 G'<μ y1 y3 y11 y12 y13 G) y1 y3 y11 y12 y13 G
theorem l2 P:LQ k1 (L2 P) (B15 P):=fun ⟨_,_,_,_,_,_⟩ _ ⟨I,μ,h0,hI⟩=>⟨apT _ I,apT _ μ,h0,fun ⟨_,_,_,_,_,_⟩ _ h=>hI _ _ _ _ _ _  h⟩
abbrev k9:Sk:=[(1,.x),(3,.v)]
def o16:=O 28
def B16 (P:PT):Y k9:=fun x1 x3 H=>
  ldI .i64 H x1 0 (fun v1=>ld1 H x1 1 (fun v2=>AC Tryz.prog T0 99 [(Value.agg ⟨[(Value.int .i64 v1),v2]⟩),(Value.int .u64 0)] H (fun v3 H4=>lenK v3 (fun n6=>L2 P x1 x3 v3 (n6:Int) 0 H4))))
theorem q16 P:Q o16 (E k1 (L2 P)) k9 (B16 P):=fun _ _ _ _=>by kernel_rfl
abbrev k10:Sk:=[(1,.x)]
def o17:=O 6
def B17 (P:PT):Y k10:=fun x1 H=>
  B16 P x1 (Value.slice none 0 0) H
theorem q17 P:Q o17 (E k9 (B16 P)) k10 (B17 P):=fun _ _ _=>by kernel_rfl
abbrev k11:Sk:=[(0,.g [.i,.v])]
def o18:=O 2
def B18 (P:PT):Y k11:=fun x0a x0b H=>
  newK H [(Value.int .i64 x0a),x0b] 26 (fun b1 H2=>B17 P b1 H2)
theorem q18 P:Q o18 (E k10 (B17 P)) k11 (B18 P):=fun _ _ _ _=>by kernel_rfl
def code:Code:=(.seq (R 0 o18) (.seq (R 1 o17) (.seq (.seq (R 2 o16) (.block 0 (.loop (.seq (R 3 o15) (.seq (.cond (.tmp 14) .skip (.exit 0)) (.seq (.block 1 (.seq (R 4 o14) (.seq (R 5 o13) (.seq (R 6 o12) (.seq (.seq (R 7 o11) (.block 2 (.loop (.seq (R 8 o10) (.seq (.cond (.tmp 23) .skip (.exit 2)) (.seq (.block 3 (.seq (R 9 o9) (.seq (R 10 o8) (.cond (.tmp 30) (R 11 o7) .skip)))) (R 12 o6))))))) (R 13 o4)))))) (R 14 o3))))))) (.seq (R 15 o1) .ret))))
theorem body:Tryz.f72.body=some code:=by kernel_rfl
theorem main (P:PT):∀ env H,(En 42 k11 (B18 P)) env H→AW Tryz.prog T0 code env H (M (ret P)):=
  (r_seq (b (q18 P)) (r_seq (b (q17 P)) (r_seq (r_seq (b (q16 P)) (r_block (rL (l2 P) (fun N2=>(r_seq (b (q15 P N2)) (r_seq (r_cond rfl r_skip (r_exit (fun _ _ h=>h))) (r_seq (r_block (r_seq (b (q14 P N2)) (r_seq (b (q13 P N2)) (r_seq (b (q12 P N2)) (r_seq (r_seq (b (q11 P N2)) (r_block (rL (l5 P N2) (fun N5=>(r_seq (b (q10 P N2 N5)) (r_seq (r_cond rfl r_skip (r_exit (fun _ _ h=>h))) (r_seq (r_block (r_seq (b (q9 P N2 N5)) (r_seq (b (q8 P N2 N5)) (r_cond rfl (b (q7 P N2 N5)) r_skip)))) (b (q6 P N2 N5))))))))) (b (q4 P N2))))))) (b (q3 P N2))))))))) (r_seq (b (q1 P)) r_ret))))
theorem ac (P:PT) (x0a:Int) (x0b:Value) (H:AHeap) (h:B18 P x0a x0b H):AC Tryz.prog T0 72 [(Value.agg ⟨[(Value.int .i64 x0a),x0b]⟩)] H P:=
  r_fn T0_ok (c:=code) (n:=42) Tryz.func72 body (by kernel_rfl) (main P) (En_mk (x0a,x0b,()) (by kernel_rfl) ⟨by kernel_rfl,trivial⟩ h)

end F72
namespace F73
abbrev E:=En 40
abbrev Q:=QB Tryz.prog T0 40
def O (k:Nat):=ob Tryz.f73 (pth k)
def ret (P:PT):EP:=retE T0 40 Tryz.f73 P
abbrev k0:Sk:=[(9,.v)]
def o1:=O 30
def B1 (P:PT):Y k0:=fun x9 H=>
  P x9 H
theorem q1 P:Q o1 (ret P) k0 (B1 P):=fun _ _ _=>by kernel_rfl
abbrev k1:Sk:=[(9,.v),(27,.v),(28,J),(29,J)]
def o3:=O 3751
def B3 (P:PT) (N2:Y k1):Y k1:=fun x9 x27 x28 x29 H=>
  N2 x9 x27 x28 (IntKind.i64.wrap (x29+1)) H
theorem q3 P N2:Q o3 (E k1 N2) k1 (B3 P N2):=fun _ _ _ _ _ _=>by kernel_rfl
abbrev k2:Sk:=[(9,.v),(10,J),(11,J),(27,.v),(28,J),(29,J)]
def o4:=O 15001
def B4 (P:PT) (N2:Y k1):Y k2:=fun x9 x10 x11 x27 x28 x29 H=>
  AC Tryz.prog T0 101 [x9,(Value.int .i64 x11),(Value.int .i64 x10)] H (fun v1 H2=>asTup v1 (fun l3=>B3 P N2 x9 x27 x28 x29 H2))
theorem q4 P N2:Q o4 (E k1 (B3 P N2)) k2 (B4 P N2):=fun _ _ _ _ _ _ _ _=>by kernel_rfl
def o5:=O 15000
def B5 (P:PT) (N2:Y k1):Y k1:=fun x9 x27 x28 x29 H=>
  idxK x27 x29 1 (fun b1 o2=>ldI .i64 H b1 o2 (fun v3=>B4 P N2 x9 x29 v3 x27 x28 x29 H))
theorem q5 P N2:Q o5 (E k2 (B4 P N2)) k1 (B5 P N2):=fun _ _ _ _ _ _=>by kernel_rfl
def o6:=O 936
def B6 (P:PT) (N2:Y k1):Y k1:=fun x9 x27 x28 x29 H=>
  pif (decide ((x29:Int)<x28)) (B5 P N2 x9 x27 x28 x29 H) (B1 P x9 H)
theorem q6 P N2:Q o6 (cnd 30 (E k1 (B5 P N2)) (E k0 (B1 P))) k1 (B6 P N2):=fun _ _ _ _ _ _=>by kernel_rfl
def L2 (P:PT):Y k1:=fun x9 x27 x28 x29 H=>
  ∃ (I:Y k1) (μ:NTy k1 (AHeap→Nat)),I x9 x27 x28 x29 H∧∀ y9 y27 y28 y29 G,I y9 y27 y28 y29 G→B6 P (fun z9 z27 z28 z29 G'=>I z9 z27 z28 z29 G'∧μ z9 z27 z28 z29 G'<μ y9 y27 y28 y29 G) y9 y27 y28 y29 G
theorem l2 P:LQ k1 (L2 P) (B6 P):=fun ⟨_,_,_,_,_⟩ _ ⟨I,μ,h0,hI⟩=>⟨apT _ I,apT _ μ,h0,fun ⟨_,_,_,_,_⟩ _ h=>hI _ _ _ _ _  h⟩
abbrev k3:Sk:=[(4,.x),(9,.v)]
def o7:=O 116
def B7 (P:PT):Y k3:=fun x4 x9 H=>
  ldI .i64 H x4 0 (fun v1=>ld1 H x4 1 (fun v2=>AC Tryz.prog T0 63 [(Value.agg ⟨[(Value.int .i64 v1),v2]⟩),(Value.int .i64 0)] H (fun v3 H4=>lenK v3 (fun n6=>L2 P x9 v3 (n6:Int) 0 H4))))
theorem q7 P:Q o7 (E k1 (L2 P)) k3 (B7 P):=fun _ _ _ _=>by kernel_rfl
abbrev k4:Sk:=[(2,.b),(4,.x),(9,.v)]
def o8:=O 28
def B8 (P:PT):Y k4:=fun x2 x4 x9 H=>
  pif x2 (B7 P x4 x9 H) (B1 P x9 H)
theorem q8 P:Q o8 (cnd 25 (E k3 (B7 P)) (E k0 (B1 P))) k4 (B8 P):=fun _ _ _ _ _=>by kernel_rfl
abbrev k5:Sk:=[(1,.v),(2,.b),(3,.v),(4,.x)]
def o9:=O 6
def B9 (P:PT):Y k5:=fun x1 x2 x3 x4 H=>
  ldI .i64 H x4 0 (fun v1=>ld1 H x4 1 (fun v2=>ld1 H x4 1 (fun v3=>lenK v3 (fun n4=>ldI .i64 H x4 0 (fun v5=>(newK H [(Value.int .i64 (-1))] 2 (fun b6 H7=>(AC Tryz.prog T0 100 [(Value.slice (some ⟨b6,0,none⟩) 1 (1+1)),(Value.int .i64 (n4:Int))] H7 (fun v8 H9=>(ldI .i64 H9 x4 0 (fun v11=>ld1 H9 x4 1 (fun v12=>((Value.agg ⟨[(Value.int .i64 v11),v12]⟩)=(Value.agg ⟨[(Value.int .i64 v1),v2]⟩))∧(H9=H9))))∧((ldI .i64 H9 x4 0 (fun v13=>((Value.int .i64 v13)=(Value.int .i64 v5))∧(H9=H9)))∧(mkR H9 8 45 [(Value.int .u64 0)] v5 v5 (fun v15 H14=>pif (Value.oneCell' x1) (pif (Value.oneCell' v8) (pif (Value.oneCell' v15) (pif (Value.oneCell' x3) (newK H14 [(Value.int .i64 v1),v2,x1,v8,v15,x3] 124 (fun b16 H17=>B8 P x2 x4 (Value.pointer (some ⟨b16,0,none⟩)) H17)) False) False) False) False)))))∧(mkR H7 8 45 [(Value.int .u64 0)] v5 v5 (fun v19 H18=>AC Tryz.prog T0 100 [(Value.slice (some ⟨b6,0,none⟩) 1 (1+1)),(Value.int .i64 (n4:Int))] H18 (fun v20 H21=>(ldI .i64 H21 x4 0 (fun v23=>ld1 H21 x4 1 (fun v24=>((Value.agg ⟨[(Value.int .i64 v23),v24]⟩)=(Value.agg ⟨[(Value.int .i64 v1),v2]⟩))∧(H21=H21))))∧((ldI .i64 H21 x4 0 (fun v25=>((Value.int .i64 v25)=(Value.int .i64 v5))∧(H21=H21)))∧(pif (Value.oneCell' x1) (pif (Value.oneCell' v20) (pif (Value.oneCell' v19) (pif (Value.oneCell' x3) (newK H21 [(Value.int .i64 v1),v2,x1,v20,v19,x3] 124 (fun b26 H27=>B8 P x2 x4 (Value.pointer (some ⟨b26,0,none⟩)) H27)) False) False) False) False)))))))∧(mkR H 8 45 [(Value.int .u64 0)] v5 v5 (fun v29 H28=>newK H28 [(Value.int .i64 (-1))] 2 (fun b30 H31=>AC Tryz.prog T0 100 [(Value.slice (some ⟨b30,0,none⟩) 1 (1+1)),(Value.int .i64 (n4:Int))] H31 (fun v32 H33=>(ldI .i64 H33 x4 0 (fun v35=>ld1 H33 x4 1 (fun v36=>((Value.agg ⟨[(Value.int .i64 v35),v36]⟩)=(Value.agg ⟨[(Value.int .i64 v1),v2]⟩))∧(H33=H33))))∧((ldI .i64 H33 x4 0 (fun v37=>((Value.int .i64 v37)=(Value.int .i64 v5))∧(H33=H33)))∧(pif (Value.oneCell' x1) (pif (Value.oneCell' v32) (pif (Value.oneCell' v29) (pif (Value.oneCell' x3) (newK H33 [(Value.int .i64 v1),v2,x1,v32,v29,x3] 124 (fun b38 H39=>B8 P x2 x4 (Value.pointer (some ⟨b38,0,none⟩)) H39)) False) False) False) False)))))))))))
theorem q9 (P:PT):QT Tryz.prog T0 40 o9 (.op 0 [] (.op 1 [] (.op 3 [] (.op 4 [] (.op 5 [] (.op 7 [] (.op 8 [] (.op 10 [] (.alt (.op 2 [] (.alt (.op 6 [0,8] (.op 9 [] (.op 11 [] (.op 12 [] (.op 13 [] .done))))) (.op 9 [] (.op 6 [0,8] (.op 11 [] (.op 12 [] (.op 13 [] .done))))))) (.op 9 [] (.op 2 [] (.op 6 [0,8] (.op 11 [] (.op 12 [] (.op 13 [] .done))))))))))))))) (En 40 k4 (B8 P)) k5 (B9 P):=fun _ _ _ _ _ _  => by kernel_rfl
abbrev k6:Sk:=[(0,.g [.i,.v]),(1,.v),(2,.b),(3,.v)]
def o10:=O 2
def B10 (P:PT):Y k6:=fun x0a x0b x1 x2 x3 H=>
  newK H [(Value.int .i64 x0a),x0b] 26 (fun b1 H2=>B9 P x1 x2 x3 b1 H2)
theorem q10 P:Q o10 (E k5 (B9 P)) k6 (B10 P):=fun _ _ _ _ _ _ _=>by kernel_rfl
def code:Code:=(.seq (R 0 o10) (.seq (.region 1 ⟨o9⟩ true) (.seq (.seq (R 2 o8) (.cond (.tmp 25) (.seq (R 3 o7) (.block 0 (.loop (.seq (R 4 o6) (.seq (.cond (.tmp 30) .skip (.exit 0)) (.seq (.block 1 (.seq (R 5 o5) (R 6 o4))) (R 7 o3))))))) .skip)) (.seq (R 8 o1) .ret))))
theorem body:Tryz.f73.body=some code:=by kernel_rfl
theorem main (P:PT):∀ env H,(En 40 k6 (B10 P)) env H→AW Tryz.prog T0 code env H (M (ret P)):=
  (r_seq (b (q10 P)) (r_seq (rT T0_ok mixed (.op 0 [] (.op 1 [] (.op 3 [] (.op 4 [] (.op 5 [] (.op 7 [] (.op 8 [] (.op 10 [] (.alt (.op 2 [] (.alt (.op 6 [0,8] (.op 9 [] (.op 11 [] (.op 12 [] (.op 13 [] .done))))) (.op 9 [] (.op 6 [0,8] (.op 11 [] (.op 12 [] (.op 13 [] .done))))))) (.op 9 [] (.op 2 [] (.op 6 [0,8] (.op 11 [] (.op 12 [] (.op 13 [] .done))))))))))))))) (by kernel_rfl) (q9 P)) (r_seq (r_seq (b (q8 P)) (r_cond rfl (r_seq (b (q7 P)) (r_block (rL (l2 P) (fun N2=>(r_seq (b (q6 P N2)) (r_seq (r_cond rfl r_skip (r_exit (fun _ _ h=>h))) (r_seq (r_block (r_seq (b (q5 P N2)) (b (q4 P N2)))) (b (q3 P N2))))))))) r_skip)) (r_seq (b (q1 P)) r_ret))))
theorem ac (P:PT) (x0a:Int) (x0b x1:Value) (x2:Bool) (x3:Value) (H:AHeap) (h:B10 P x0a x0b x1 x2 x3 H):AC Tryz.prog T0 73 [(Value.agg ⟨[(Value.int .i64 x0a),x0b]⟩),x1,(Value.bool x2),x3] H P:=
  r_fn T0_ok (c:=code) (n:=40) Tryz.func73 body (by kernel_rfl) (main P) (En_mk (x0a,x0b,x1,x2,x3,()) (by kernel_rfl) ⟨by kernel_rfl,by kernel_rfl,by kernel_rfl,by kernel_rfl,trivial⟩ h)

end F73
namespace F74
abbrev E:=En 21
abbrev Q:=QB Tryz.prog T0 21
def O (k:Nat):=ob Tryz.f74 (pth k)
def ret (P:PT):EP:=retE T0 21 Tryz.f74 P
abbrev k0:Sk:=[]
def o1:=O 14
def B1 (P:PT):Y k0:=fun H=>
  P (Value.bool true) H
theorem q1 P:Q o1 (ret P) k0 (B1 P):=fun _ _=>by kernel_rfl
abbrev k1:Sk:=[(0,.v),(2,.v),(7,.v),(8,J),(9,J)]
def o3:=O 423
def B3 (P:PT) (N2:Y k1):Y k1:=fun x0 x2 x7 x8 x9 H=>
  N2 x0 x2 x7 x8 (IntKind.i64.wrap (x9+1)) H
theorem q3 P N2:Q o3 (E k1 N2) k1 (B3 P N2):=fun _ _ _ _ _ _ _=>by kernel_rfl
abbrev k2:Sk:=[(0,.v),(2,.v),(6,J),(7,.v),(8,J),(9,J)]
def o4:=O 1689
def B4 (P:PT) (N2:Y k1):Y k2:=fun x0 x2 x6 x7 x8 x9 H=>
  asP x2 (fun b1 o2=>ld1 H b1 o2 (fun v3=>idxK x0 x6 1 (fun b4 o5=>ldI .i64 H b4 o5 (fun v6=>idxK v3 x6 1 (fun b7 o8=>stK H b7 o8 [(Value.int .i64 v6)] (fun H9=>B3 P N2 x0 x2 x7 x8 x9 H9))))))
theorem q4 (P:PT) (N2:Y k1):QD Tryz.prog T0 21 o4 [(0,false),(1,false),(2,false),(3,false),(4,false),(5,false),(6,false),(7,false)] (En 21 k1 (B3 P N2)) k2 (B4 P N2):=fun _ _ _ _ _ _ _ _  => by kernel_rfl
def o5:=O 1688
def B5 (P:PT) (N2:Y k1):Y k1:=fun x0 x2 x7 x8 x9 H=>
  idxK x7 x9 1 (fun b1 o2=>ldI .i64 H b1 o2 (fun v3=>B4 P N2 x0 x2 v3 x7 x8 x9 H))
theorem q5 P N2:Q o5 (E k2 (B4 P N2)) k1 (B5 P N2):=fun _ _ _ _ _ _ _=>by kernel_rfl
def o6:=O 104
def B6 (P:PT) (N2:Y k1):Y k1:=fun x0 x2 x7 x8 x9 H=>
  pif (decide ((x9:Int)<x8)) (B5 P N2 x0 x2 x7 x8 x9 H) (B1 P H)
theorem q6 P N2:Q o6 (cnd 10 (E k1 (B5 P N2)) (E k0 (B1 P))) k1 (B6 P N2):=fun _ _ _ _ _ _ _=>by kernel_rfl
def L2 (P:PT):Y k1:=fun x0 x2 x7 x8 x9 H=>
  ∃ (I:Y k1) (μ:NTy k1 (AHeap→Nat)),I x0 x2 x7 x8 x9 H∧∀ y0 y2 y7 y8 y9 G,I y0 y2 y7 y8 y9 G→B6 P (fun z0 z2 z7 z8 z9 G'=>I z0 z2 z7 z8 z9 G'∧μ z0 z2 z7 z8 z9 G'<μ y0 y2 y7 y8 y9 G) y0 y2 y7 y8 y9 G
theorem l2 P:LQ k1 (L2 P) (B6 P):=fun ⟨_,_,_,_,_,_⟩ _ ⟨I,μ,h0,hI⟩=>⟨apT _ I,apT _ μ,h0,fun ⟨_,_,_,_,_,_⟩ _ h=>hI _ _ _ _ _ _  h⟩
abbrev k3:Sk:=[(0,.v),(1,.v),(2,.v)]
def o7:=O 12
def B7 (P:PT):Y k3:=fun x0 x1 x2 H=>
  asP x1 (fun b1 o2=>ld1 H b1 o2 (fun v3=>lenK v3 (fun n4=>L2 P x0 x2 v3 (n4:Int) 0 H)))
theorem q7 P:Q o7 (E k1 (L2 P)) k3 (B7 P):=fun _ _ _ _ _=>by kernel_rfl
def o8:=O 2
def B8 (P:PT):Y k3:=fun x0 x1 x2 H=>
  B7 P x0 x1 x2 H
theorem q8 P:Q o8 (E k3 (B7 P)) k3 (B8 P):=fun _ _ _ _ _=>by kernel_rfl
def code:Code:=(.seq (R 0 o8) (.seq (.seq (R 1 o7) (.block 0 (.loop (.seq (R 2 o6) (.seq (.cond (.tmp 10) .skip (.exit 0)) (.seq (.block 1 (.seq (R 3 o5) (.region 4 ⟨o4⟩ true))) (R 5 o3))))))) (.seq (R 6 o1) .ret)))
theorem body:Tryz.f74.body=some code:=by kernel_rfl
theorem main (P:PT):∀ env H,(En 21 k3 (B8 P)) env H→AW Tryz.prog T0 code env H (M (ret P)):=
  (r_seq (b (q8 P)) (r_seq (r_seq (b (q7 P)) (r_block (rL (l2 P) (fun N2=>(r_seq (b (q6 P N2)) (r_seq (r_cond rfl r_skip (r_exit (fun _ _ h=>h))) (r_seq (r_block (r_seq (b (q5 P N2)) (rD T0_ok mixed [(0,false),(1,false),(2,false),(3,false),(4,false),(5,false),(6,false),(7,false)] (by kernel_rfl) (q4 P N2)))) (b (q3 P N2))))))))) (r_seq (b (q1 P)) r_ret)))
theorem ac (P:PT) (x0 x1 x2:Value) (H:AHeap) (h:B8 P x0 x1 x2 H):AC Tryz.prog T0 74 [x0,x1,x2] H P:=
  r_fn T0_ok (c:=code) (n:=21) Tryz.func74 body (by kernel_rfl) (main P) (En_mk (x0,x1,x2,()) (by kernel_rfl) ⟨by kernel_rfl,by kernel_rfl,by kernel_rfl,trivial⟩ h)

end F74
namespace F75
abbrev E:=En 57
abbrev Q:=QB Tryz.prog T0 57
def O (k:Nat):=ob Tryz.f75 (pth k)
def ret (P:PT):EP:=retE T0 57 Tryz.f75 P
abbrev k0:Sk:=[(0,.v)]
def o1:=O 14
def B1 (P:PT):Y k0:=fun x0 H=>
  AC Tryz.prog T0 102 [x0,(Value.int .i64 0)] H (fun v1 H2=>asB v1 (fun v3=>P (Value.bool v3) H2))
theorem q1 P:Q o1 (ret P) k0 (B1 P):=fun _ _ _=>by kernel_rfl
abbrev k1:Sk:=[(0,.v),(11,J),(12,J)]
def o3:=O 423
def B3 (P:PT) (N2:Y k1):Y k1:=fun x0 x11 x12 H=>
  N2 x0 x11 (IntKind.i64.wrap (x12+1)) H
theorem q3 P N2:Q o3 (E k1 N2) k1 (B3 P N2):=fun _ _ _ _ _=>by kernel_rfl
abbrev k2:Sk:=[(0,.v),(4,.i .u64),(11,J),(12,J),(20,.v),(21,J),(22,J)]
def o5:=O 216295
def B5 (P:PT) (N2:Y k1) (N4:Y k2):Y k2:=fun x0 x4 x11 x12 x20 x21 x22 H=>
  N4 x0 x4 x11 x12 x20 x21 (IntKind.i64.wrap (x22+1)) H
theorem q5 P N2 N4:Q o5 (E k2 N4) k2 (B5 P N2 N4):=fun _ _ _ _ _ _ _ _ _=>by kernel_rfl
abbrev k3:Sk:=[(0,.v),(4,.i .u64),(6,J),(11,J),(12,J),(20,.v),(21,J),(22,J)]
def o6:=O 3460711
def B6 (P:PT) (N2:Y k1) (N4:Y k2):Y k3:=fun x0 x4 x6 x11 x12 x20 x21 x22 H=>
  nilK x0 (fun v1=>asP v1 (fun b2 o3=>ld1 H b2 (o3+3) (fun v4=>idxK v4 x6 1 (fun b5 o6=>ldI .i64 H b5 o6 (fun v7=>((0:Int)≤v7)∧(B5 P N2 N4 x0 (IntKind.u64.wrap (BitVec.ofInt 64 x4|||BitVec.ofInt 64 (IntKind.u64.wrap (1*2^(min (Int.toNat v7) 64)))).toNat) x11 x12 x20 x21 x22 H))))))
theorem q6 P N2 N4:Q o6 (E k2 (B5 P N2 N4)) k3 (B6 P N2 N4):=fun _ _ _ _ _ _ _ _ _ _=>by kernel_rfl
abbrev k4:Sk:=[]
def o7:=O 27685684
def B7 (P:PT) (N2:Y k1) (N4:Y k2):Y k4:=fun H=>
  P (Value.bool false) H
theorem q7 P N2 N4:Q o7 (ret P) k4 (B7 P N2 N4):=fun _ _=>by kernel_rfl
def o8:=O 6921420
def B8 (P:PT) (N2:Y k1) (N4:Y k2):Y k3:=fun x0 x4 x6 x11 x12 x20 x21 x22 H=>
  nilK x0 (fun v1=>asP v1 (fun b2 o3=>ld1 H b2 (o3+3) (fun v4=>idxK v4 x6 1 (fun b5 o6=>ldI .i64 H b5 o6 (fun v7=>AC Tryz.prog T0 42 [(Value.int .u64 x4),(Value.int .i64 v7)] H (fun v8 H9=>asB v8 (fun v10=>pif v10 (B7 P N2 N4 H9) (B6 P N2 N4 x0 x4 x6 x11 x12 x20 x21 x22 H9))))))))
theorem q8 P N2 N4:Q o8 (cnd 42 (E k4 (B7 P N2 N4)) (E k3 (B6 P N2 N4))) k3 (B8 P N2 N4):=fun _ _ _ _ _ _ _ _ _ _=>by kernel_rfl
def o9:=O 3460708
def B9 (P:PT) (N2:Y k1) (N4:Y k2):Y k3:=fun x0 x4 x6 x11 x12 x20 x21 x22 H=>
  nilK x0 (fun v1=>asP v1 (fun b2 o3=>ld1 H b2 (o3+3) (fun v4=>idxK v4 x6 1 (fun b5 o6=>ldI .i64 H b5 o6 (fun v7=>pif ((v7:Int)==(-1)) (B5 P N2 N4 x0 x4 x11 x12 x20 x21 x22 H) (B8 P N2 N4 x0 x4 x6 x11 x12 x20 x21 x22 H))))))
theorem q9 P N2 N4:Q o9 (cnd 33 (E k2 (B5 P N2 N4)) (E k3 (B8 P N2 N4))) k3 (B9 P N2 N4):=fun _ _ _ _ _ _ _ _ _ _=>by kernel_rfl
def o10:=O 865176
def B10 (P:PT) (N2:Y k1) (N4:Y k2):Y k2:=fun x0 x4 x11 x12 x20 x21 x22 H=>
  idxK x20 x22 1 (fun b1 o2=>ldI .i64 H b1 o2 (fun v3=>B9 P N2 N4 x0 x4 v3 x11 x12 x20 x21 x22 H))
theorem q10 P N2 N4:Q o10 (E k3 (B9 P N2 N4)) k2 (B10 P N2 N4):=fun _ _ _ _ _ _ _ _ _=>by kernel_rfl
def o11:=O 54072
def B11 (P:PT) (N2:Y k1) (N4:Y k2):Y k2:=fun x0 x4 x11 x12 x20 x21 x22 H=>
  pif (decide ((x22:Int)<x21)) (B10 P N2 N4 x0 x4 x11 x12 x20 x21 x22 H) (B3 P N2 x0 x11 x12 H)
theorem q11 P N2 N4:Q o11 (cnd 23 (E k2 (B10 P N2 N4)) (E k1 (B3 P N2))) k2 (B11 P N2 N4):=fun _ _ _ _ _ _ _ _ _=>by kernel_rfl
def L4 (P:PT) (N2:Y k1):Y k2:=fun x0 x4 x11 x12 x20 x21 x22 H=>
  ∃ (I:Y k2) (μ:NTy k2 (AHeap→Nat)),I x0 x4 x11 x12 x20 x21 x22 H∧∀ y0 y4 y11 y12 y20 y21 y22 G,I y0 y4 y11 y12 y20 y21 y22 G→B11 P N2 (fun z0 z4 z11 z12 z20 z21 z22 G'=>I z0 z4 z11 z12 z20 z21 z22 G'∧μ z0 z4 z11 z12 z20 z21 z22 G'<μ y0 y4 y11 y12 y20 y21 y22 G) y0 y4 y11 y12 y20 y21 y22 G
theorem l4 P N2:LQ k2 (L4 P N2) (B11 P N2):=fun ⟨_,_,_,_,_,_,_,_⟩ _ ⟨I,μ,h0,hI⟩=>⟨apT _ I,apT _ μ,h0,fun ⟨_,_,_,_,_,_,_,_⟩ _ h=>hI _ _ _ _ _ _ _ _  h⟩
abbrev k5:Sk:=[(0,.v),(3,J),(4,.i .u64),(11,J),(12,J)]
def o12:=O 6758
def B12 (P:PT) (N2:Y k1):Y k5:=fun x0 x3 x4 x11 x12 H=>
  nilK x0 (fun v1=>asP v1 (fun b2 o3=>ldI .i64 H b2 o3 (fun v4=>ld1 H b2 (o3+1) (fun v5=>AC Tryz.prog T0 63 [(Value.agg ⟨[(Value.int .i64 v4),v5]⟩),(Value.int .i64 x3)] H (fun v6 H7=>lenK v6 (fun n9=>L4 P N2 x0 x4 x11 x12 v6 (n9:Int) 0 H7))))))
theorem q12 P N2:Q o12 (E k2 (L4 P N2)) k5 (B12 P N2):=fun _ _ _ _ _ _ _=>by kernel_rfl
abbrev k6:Sk:=[(0,.v),(3,J),(11,J),(12,J)]
def o13:=O 3378
def B13 (P:PT) (N2:Y k1):Y k6:=fun x0 x3 x11 x12 H=>
  B12 P N2 x0 x3 0 x11 x12 H
theorem q13 P N2:Q o13 (E k5 (B12 P N2)) k6 (B13 P N2):=fun _ _ _ _ _ _=>by kernel_rfl
def o14:=O 1688
def B14 (P:PT) (N2:Y k1):Y k1:=fun x0 x11 x12 H=>
  B13 P N2 x0 x12 x11 x12 H
theorem q14 P N2:Q o14 (E k6 (B13 P N2)) k1 (B14 P N2):=fun _ _ _ _ _=>by kernel_rfl
def o15:=O 104
def B15 (P:PT) (N2:Y k1):Y k1:=fun x0 x11 x12 H=>
  pif (decide ((x12:Int)<x11)) (B14 P N2 x0 x11 x12 H) (B1 P x0 H)
theorem q15 P N2:Q o15 (cnd 13 (E k1 (B14 P N2)) (E k0 (B1 P))) k1 (B15 P N2):=fun _ _ _ _ _=>by kernel_rfl
def L2 (P:PT):Y k1:=fun x0 x11 x12 H=>
  ∃ (I:Y k1) (μ:NTy k1 (AHeap→Nat)),I x0 x11 x12 H∧∀ y0 y11 y12 G,I y0 y11 y12 G→B15 P (fun z0 z11 z12 G'=>I z0 z11 z12 G'∧μ z0 z11 z12 G'<μ y0 y11 y12 G) y0 y11 y12 G
theorem l2 P:LQ k1 (L2 P) (B15 P):=fun ⟨_,_,_,_⟩ _ ⟨I,μ,h0,hI⟩=>⟨apT _ I,apT _ μ,h0,fun ⟨_,_,_,_⟩ _ h=>hI _ _ _ _  h⟩
def o16:=O 12
def B16 (P:PT):Y k0:=fun x0 H=>
  nilK x0 (fun v1=>asP v1 (fun b2 o3=>ldI .i64 H b2 o3 (fun v4=>L2 P x0 v4 0 H)))
theorem q16 P:Q o16 (E k1 (L2 P)) k0 (B16 P):=fun _ _ _=>by kernel_rfl
def o17:=O 2
def B17 (P:PT):Y k0:=fun x0 H=>
  B16 P x0 H
theorem q17 P:Q o17 (E k0 (B16 P)) k0 (B17 P):=fun _ _ _=>by kernel_rfl
def code:Code:=(.seq (R 0 o17) (.seq (.seq (R 1 o16) (.block 0 (.loop (.seq (R 2 o15) (.seq (.cond (.tmp 13) .skip (.exit 0)) (.seq (.block 1 (.seq (R 3 o14) (.seq (R 4 o13) (.seq (R 5 o12) (.block 2 (.loop (.seq (R 6 o11) (.seq (.cond (.tmp 23) .skip (.exit 2)) (.seq (.block 3 (.seq (R 7 o10) (.seq (.seq (R 8 o9) (.cond (.tmp 33) (.exit 3) .skip)) (.seq (.seq (R 9 o8) (.cond (.tmp 42) (.seq (R 10 o7) .ret) .skip)) (R 11 o6))))) (R 12 o5)))))))))) (R 13 o3))))))) (.seq (R 14 o1) .ret)))
theorem body:Tryz.f75.body=some code:=by kernel_rfl
theorem main (P:PT):∀ env H,(En 57 k0 (B17 P)) env H→AW Tryz.prog T0 code env H (M (ret P)):=
  (r_seq (b (q17 P)) (r_seq (r_seq (b (q16 P)) (r_block (rL (l2 P) (fun N2=>(r_seq (b (q15 P N2)) (r_seq (r_cond rfl r_skip (r_exit (fun _ _ h=>h))) (r_seq (r_block (r_seq (b (q14 P N2)) (r_seq (b (q13 P N2)) (r_seq (b (q12 P N2)) (r_block (rL (l4 P N2) (fun N4=>(r_seq (b (q11 P N2 N4)) (r_seq (r_cond rfl r_skip (r_exit (fun _ _ h=>h))) (r_seq (r_block (r_seq (b (q10 P N2 N4)) (r_seq (r_seq (b (q9 P N2 N4)) (r_cond rfl (r_exit (fun _ _ h=>h)) r_skip)) (r_seq (r_seq (b (q8 P N2 N4)) (r_cond rfl (r_seq (b (q7 P N2 N4)) r_ret) r_skip)) (b (q6 P N2 N4)))))) (b (q5 P N2 N4)))))))))))) (b (q3 P N2))))))))) (r_seq (b (q1 P)) r_ret)))
theorem ac (P:PT) (x0:Value) (H:AHeap) (h:B17 P x0 H):AC Tryz.prog T0 75 [x0] H P:=
  r_fn T0_ok (c:=code) (n:=57) Tryz.func75 body (by kernel_rfl) (main P) (En_mk (x0,()) (by kernel_rfl) ⟨by kernel_rfl,trivial⟩ h)

end F75
namespace F76
abbrev E:=En 9
abbrev Q:=QB Tryz.prog T0 9
def O (k:Nat):=ob Tryz.f76 (pth k)
def ret (P:PT):EP:=retE T0 9 Tryz.f76 P
abbrev k0:Sk:=[(0,.v),(3,.x)]
def o1:=O 6
def B1 (P:PT):Y k0:=fun x0 x3 H=>
  AC Tryz.prog T0 103 [x0,(Value.func (.func 104) ⟨[]⟩ ⟨[(Value.pointer (some ⟨x3,0,none⟩))]⟩)] H (fun v1 H2=>asB v1 (fun v3=>P (Value.bool (!v3)) H2))
theorem q1 P:Q o1 (ret P) k0 (B1 P):=fun _ _ _ _=>by kernel_rfl
abbrev k1:Sk:=[(0,.v),(1,.v)]
def o2:=O 2
def B2 (P:PT):Y k1:=fun x0 x1 H=>
  pif (Value.oneCell' x1) (newK H [x1] 71 (fun b1 H2=>B1 P x0 b1 H2)) False
theorem q2 P:Q o2 (E k0 (B1 P)) k1 (B2 P):=fun _ _ _ _=>by kernel_rfl
def code:Code:=(.seq (R 0 o2) (.seq (R 1 o1) .ret))
theorem body:Tryz.f76.body=some code:=by kernel_rfl
theorem main (P:PT):∀ env H,(En 9 k1 (B2 P)) env H→AW Tryz.prog T0 code env H (M (ret P)):=
  (r_seq (b (q2 P)) (r_seq (b (q1 P)) r_ret))
theorem ac (P:PT) (x0 x1:Value) (H:AHeap) (h:B2 P x0 x1 H):AC Tryz.prog T0 76 [x0,x1] H P:=
  r_fn T0_ok (c:=code) (n:=9) Tryz.func76 body (by kernel_rfl) (main P) (En_mk (x0,x1,()) (by kernel_rfl) ⟨by kernel_rfl,by kernel_rfl,trivial⟩ h)

end F76
namespace F77
abbrev E:=En 5
abbrev Q:=QB Tryz.prog T0 5
def O (k:Nat):=ob Tryz.f77 (pth k)
def ret (P:PT):EP:=retE T0 5 Tryz.f77 P
abbrev k0:Sk:=[(0,J)]
def o1:=O 6
def B1 (P:PT):Y k0:=fun x0 H=>
  AC Tryz.prog T0 94 [(Value.int .i64 x0),(Value.int .i64 0),(Value.int .i64 2)] H (fun v1 H2=>asB v1 (fun v3=>P (Value.bool v3) H2))
theorem q1 P:Q o1 (ret P) k0 (B1 P):=fun _ _ _=>by kernel_rfl
def o2:=O 2
def B2 (P:PT):Y k0:=fun x0 H=>
  B1 P x0 H
theorem q2 P:Q o2 (E k0 (B1 P)) k0 (B2 P):=fun _ _ _=>by kernel_rfl
def code:Code:=(.seq (R 0 o2) (.seq (R 1 o1) .ret))
theorem body:Tryz.f77.body=some code:=by kernel_rfl
theorem main (P:PT):∀ env H,(En 5 k0 (B2 P)) env H→AW Tryz.prog T0 code env H (M (ret P)):=
  (r_seq (b (q2 P)) (r_seq (b (q1 P)) r_ret))
theorem ac (P:PT) (x0:Int) (H:AHeap) (h:B2 P x0 H):AC Tryz.prog T0 77 [(Value.int .i64 x0)] H P:=
  r_fn T0_ok (c:=code) (n:=5) Tryz.func77 body (by kernel_rfl) (main P) (En_mk (x0,()) (by kernel_rfl) ⟨by kernel_rfl,trivial⟩ h)

end F77
namespace F78
abbrev E:=En 2
abbrev Q:=QB Tryz.prog T0 2
def O (k:Nat):=ob Tryz.f78 (pth k)
def ret (P:PT):EP:=retE T0 2 Tryz.f78 P
abbrev k0:Sk:=[]
def o1:=O 6
def B1 (P:PT):Y k0:=fun H=>
  newK H [(Value.string (⟨#[116,104,101,116,97]⟩)),(Value.string (⟨#[107,52]⟩)),(Value.string (⟨#[107,51,51]⟩)),(Value.string (⟨#[112,114,105,115,109]⟩)),(Value.string (⟨#[99,117,98,101]⟩)),(Value.string (⟨#[112,101,116,101,114,115,101,110]⟩)),(Value.string (⟨#[116,105,101,116,122,101]⟩)),(Value.string (⟨#[102,108,111,119,101,114,53]⟩)),(Value.string (⟨#[98,114,105,100,103,101]⟩))] 9 (fun b1 H2=>P (Value.slice (some ⟨b1,0,none⟩) 9 (9+1)) H2)
theorem q1 P:Q o1 (ret P) k0 (B1 P):=fun _ _=>by kernel_rfl
def o2:=O 2
def B2 (P:PT):Y k0:=fun H=>
  B1 P H
theorem q2 P:Q o2 (E k0 (B1 P)) k0 (B2 P):=fun _ _=>by kernel_rfl
def code:Code:=(.seq (R 0 o2) (.seq (R 1 o1) .ret))
theorem body:Tryz.f78.body=some code:=by kernel_rfl
theorem main (P:PT):∀ env H,(En 2 k0 (B2 P)) env H→AW Tryz.prog T0 code env H (M (ret P)):=
  (r_seq (b (q2 P)) (r_seq (b (q1 P)) r_ret))
theorem ac (P:PT) (H:AHeap) (h:B2 P H):AC Tryz.prog T0 78 [] H P:=
  r_fn T0_ok (c:=code) (n:=2) Tryz.func78 body (by kernel_rfl) (main P) (En_mk (()) (by kernel_rfl) trivial h)

end F78
namespace F79
abbrev E:=En 228
abbrev Q:=QB Tryz.prog T0 228
def O (k:Nat):=ob Tryz.f79 (pth k)
def ret (P:PT):EP:=retE T0 228 Tryz.f79 P
abbrev k0:Sk:=[(2,.x)]
def o1:=O 30
def B1 (P:PT):Y k0:=fun x2 H=>
  stK H x2 0 [(Value.int .i64 0),(Value.slice none 0 0)] (fun H1=>ldI .i64 H1 x2 0 (fun v2=>ld1 H1 x2 1 (fun v3=>P (Value.tuple ⟨[(Value.agg ⟨[(Value.int .i64 v2),v3]⟩),(Value.bool false)]⟩) H1)))
theorem q1 P:Q o1 (ret P) k0 (B1 P):=fun _ _ _=>by kernel_rfl
def o2:=O 468
def B2 (P:PT):Y k0:=fun x2 H=>
  newK H [(Value.int .i64 0),(Value.int .i64 1),(Value.int .i64 0),(Value.int .i64 1),(Value.int .i64 0),(Value.int .i64 1)] 84 (fun b1 H2=>AC Tryz.prog T0 105 [(Value.int .i64 2),(Value.slice (some ⟨b1,0,none⟩) 3 (3+1))] H2 (fun v3 H4=>agg2 v3 (fun v5 v6=>asI .i64 v5 (fun v7=>stK H4 x2 0 [(Value.int .i64 v7),v6] (fun H9=>ldI .i64 H9 x2 0 (fun v10=>ld1 H9 x2 1 (fun v11=>P (Value.tuple ⟨[(Value.agg ⟨[(Value.int .i64 v10),v11]⟩),(Value.bool true)]⟩) H9)))))))
theorem q2 P:Q o2 (ret P) k0 (B2 P):=fun _ _ _=>by kernel_rfl
def o3:=O 1884
def B3 (P:PT):Y k0:=fun x2 H=>
  newK H [(Value.int .i64 0),(Value.int .i64 1),(Value.int .i64 0),(Value.int .i64 2),(Value.int .i64 0),(Value.int .i64 3),(Value.int .i64 1),(Value.int .i64 2),(Value.int .i64 1),(Value.int .i64 3),(Value.int .i64 2),(Value.int .i64 3)] 84 (fun b1 H2=>AC Tryz.prog T0 105 [(Value.int .i64 4),(Value.slice (some ⟨b1,0,none⟩) 6 (6+1))] H2 (fun v3 H4=>agg2 v3 (fun v5 v6=>asI .i64 v5 (fun v7=>stK H4 x2 0 [(Value.int .i64 v7),v6] (fun H9=>ldI .i64 H9 x2 0 (fun v10=>ld1 H9 x2 1 (fun v11=>P (Value.tuple ⟨[(Value.agg ⟨[(Value.int .i64 v10),v11]⟩),(Value.bool true)]⟩) H9)))))))
theorem q3 P:Q o3 (ret P) k0 (B3 P):=fun _ _ _=>by kernel_rfl
abbrev k1:Sk:=[(2,.x),(4,.v)]
def o4:=O 15098
def B4 (P:PT):Y k1:=fun x2 x4 H=>
  AC Tryz.prog T0 105 [(Value.int .i64 6),x4] H (fun v1 H2=>agg2 v1 (fun v3 v4=>asI .i64 v3 (fun v5=>stK H2 x2 0 [(Value.int .i64 v5),v4] (fun H7=>ldI .i64 H7 x2 0 (fun v8=>ld1 H7 x2 1 (fun v9=>P (Value.tuple ⟨[(Value.agg ⟨[(Value.int .i64 v8),v9]⟩),(Value.bool true)]⟩) H7))))))
theorem q4 P:Q o4 (ret P) k1 (B4 P):=fun _ _ _ _=>by kernel_rfl
abbrev k2:Sk:=[(2,.x),(4,.v),(5,J)]
def o6:=O 241555
def B6 (P:PT) (N5:Y k2):Y k2:=fun x2 x4 x5 H=>
  N5 x2 x4 (IntKind.i64.wrap (x5+1)) H
theorem q6 P N5:Q o6 (E k2 N5) k2 (B6 P N5):=fun _ _ _ _ _=>by kernel_rfl
def o7:=O 483108
def B7 (P:PT) (N5:Y k2):Y k2:=fun x2 x4 x5 H=>
  newK H [(Value.int .i64 x5),(Value.int .i64 3),(Value.int .i64 x5),(Value.int .i64 4),(Value.int .i64 x5),(Value.int .i64 5)] 84 (fun b1 H2=>apK T0 84 H2 x4 (Value.slice (some ⟨b1,0,none⟩) 3 (3+1)) (fun v3 H4=>B6 P N5 x2 v3 x5 H4))
theorem q7 P N5:Q o7 (E k2 (B6 P N5)) k2 (B7 P N5):=fun _ _ _ _ _=>by kernel_rfl
def o8:=O 241552
def B8 (P:PT) (N5:Y k2):Y k2:=fun x2 x4 x5 H=>
  pif (decide ((x5:Int)<3)) (B7 P N5 x2 x4 x5 H) (B4 P x2 x4 H)
theorem q8 P N5:Q o8 (cnd 36 (E k2 (B7 P N5)) (E k1 (B4 P))) k2 (B8 P N5):=fun _ _ _ _ _=>by kernel_rfl
def L5 (P:PT):Y k2:=fun x2 x4 x5 H=>
  ∃ (I:Y k2) (μ:NTy k2 (AHeap→Nat)),I x2 x4 x5 H∧∀ y2 y4 y5 G,I y2 y4 y5 G→B8 P (fun z2 z4 z5 G'=>I z2 z4 z5 G'∧μ z2 z4 z5 G'<μ y2 y4 y5 G) y2 y4 y5 G
theorem l5 P:LQ k2 (L5 P) (B8 P):=fun ⟨_,_,_,_⟩ _ ⟨I,μ,h0,hI⟩=>⟨apT _ I,apT _ μ,h0,fun ⟨_,_,_,_⟩ _ h=>hI _ _ _ _  h⟩
def o9:=O 15096
def B9 (P:PT):Y k1:=fun x2 x4 H=>
  L5 P x2 x4 0 H
theorem q9 P:Q o9 (E k2 (L5 P)) k1 (B9 P):=fun _ _ _ _=>by kernel_rfl
def o10:=O 60410
def B10 (P:PT):Y k1:=fun x2 x4 H=>
  newK H [(Value.int .i64 0),(Value.int .i64 3),(Value.int .i64 1),(Value.int .i64 4),(Value.int .i64 2),(Value.int .i64 5)] 84 (fun b1 H2=>apK T0 84 H2 x4 (Value.slice (some ⟨b1,0,none⟩) 3 (3+1)) (fun v3 H4=>AC Tryz.prog T0 105 [(Value.int .i64 6),v3] H4 (fun v5 H6=>agg2 v5 (fun v7 v8=>asI .i64 v7 (fun v9=>stK H6 x2 0 [(Value.int .i64 v9),v8] (fun H11=>ldI .i64 H11 x2 0 (fun v12=>ld1 H11 x2 1 (fun v13=>P (Value.tuple ⟨[(Value.agg ⟨[(Value.int .i64 v12),v13]⟩),(Value.bool true)]⟩) H11))))))))
theorem q10 P:Q o10 (ret P) k1 (B10 P):=fun _ _ _ _=>by kernel_rfl
def o11:=O 30204
def B11 (P:PT):Y k1:=fun x2 x4 H=>
  newK H [(Value.int .i64 0),(Value.int .i64 1),(Value.int .i64 2)] 2 (fun b1 H2=>AC Tryz.prog T0 106 [x4,(Value.slice (some ⟨b1,0,none⟩) 3 (3+1))] H2 (fun v3 H4=>newK H4 [(Value.int .i64 3),(Value.int .i64 4),(Value.int .i64 5)] 2 (fun b6 H7=>AC Tryz.prog T0 106 [v3,(Value.slice (some ⟨b6,0,none⟩) 3 (3+1))] H7 (fun v8 H9=>B10 P x2 v8 H9))))
theorem q11 P:Q o11 (E k1 (B10 P)) k1 (B11 P):=fun _ _ _ _=>by kernel_rfl
def o12:=O 241658
def B12 (P:PT):Y k1:=fun x2 x4 H=>
  AC Tryz.prog T0 105 [(Value.int .i64 8),x4] H (fun v1 H2=>agg2 v1 (fun v3 v4=>asI .i64 v3 (fun v5=>stK H2 x2 0 [(Value.int .i64 v5),v4] (fun H7=>ldI .i64 H7 x2 0 (fun v8=>ld1 H7 x2 1 (fun v9=>P (Value.tuple ⟨[(Value.agg ⟨[(Value.int .i64 v8),v9]⟩),(Value.bool true)]⟩) H7))))))
theorem q12 P:Q o12 (ret P) k1 (B12 P):=fun _ _ _ _=>by kernel_rfl
abbrev k3:Sk:=[(2,.x),(4,.v),(6,J)]
def o14:=O 3866515
def B14 (P:PT) (N13:Y k3):Y k3:=fun x2 x4 x6 H=>
  N13 x2 x4 (IntKind.i64.wrap (x6+1)) H
theorem q14 P N13:Q o14 (E k3 N13) k3 (B14 P N13):=fun _ _ _ _ _=>by kernel_rfl
abbrev k4:Sk:=[(2,.x),(4,.v),(6,J),(7,J)]
def o16:=O 247456915
def B16 (P:PT) (N13:Y k3) (N15:Y k4):Y k4:=fun x2 x4 x6 x7 H=>
  N15 x2 x4 x6 (IntKind.i64.wrap (2*x7)) H
theorem q16 P N13 N15:Q o16 (E k4 N15) k4 (B16 P N13 N15):=fun _ _ _ _ _ _=>by kernel_rfl
def o17:=O 1979655314
def B17 (P:PT) (N13:Y k3) (N15:Y k4):Y k4:=fun x2 x4 x6 x7 H=>
  newK H [(Value.int .i64 x6),(Value.int .i64 (IntKind.i64.wrap (x6+x7)))] 84 (fun b1 H2=>apK T0 84 H2 x4 (Value.slice (some ⟨b1,0,none⟩) 1 (1+1)) (fun v3 H4=>B16 P N13 N15 x2 v3 x6 x7 H4))
theorem q17 P N13 N15:Q o17 (E k4 (B16 P N13 N15)) k4 (B17 P N13 N15):=fun _ _ _ _ _ _=>by kernel_rfl
def o18:=O 989827656
def B18 (P:PT) (N13:Y k3) (N15:Y k4):Y k4:=fun x2 x4 x6 x7 H=>
  pif ((IntKind.i64.wrap (BitVec.ofInt 64 x6&&&BitVec.ofInt 64 x7).toNat:Int)==0) (B17 P N13 N15 x2 x4 x6 x7 H) (B16 P N13 N15 x2 x4 x6 x7 H)
theorem q18 P N13 N15:Q o18 (cnd 77 (E k4 (B17 P N13 N15)) (E k4 (B16 P N13 N15))) k4 (B18 P N13 N15):=fun _ _ _ _ _ _=>by kernel_rfl
def o19:=O 247456912
def B19 (P:PT) (N13:Y k3) (N15:Y k4):Y k4:=fun x2 x4 x6 x7 H=>
  pif (decide ((x7:Int)<8)) (B18 P N13 N15 x2 x4 x6 x7 H) (B14 P N13 x2 x4 x6 H)
theorem q19 P N13 N15:Q o19 (cnd 71 (E k4 (B18 P N13 N15)) (E k3 (B14 P N13))) k4 (B19 P N13 N15):=fun _ _ _ _ _ _=>by kernel_rfl
def L15 (P:PT) (N13:Y k3):Y k4:=fun x2 x4 x6 x7 H=>
  ∃ (I:Y k4) (μ:NTy k4 (AHeap→Nat)),I x2 x4 x6 x7 H∧∀ y2 y4 y6 y7 G,I y2 y4 y6 y7 G→B19 P N13 (fun z2 z4 z6 z7 G'=>I z2 z4 z6 z7 G'∧μ z2 z4 z6 z7 G'<μ y2 y4 y6 y7 G) y2 y4 y6 y7 G
theorem l15 P N13:LQ k4 (L15 P N13) (B19 P N13):=fun ⟨_,_,_,_,_⟩ _ ⟨I,μ,h0,hI⟩=>⟨apT _ I,apT _ μ,h0,fun ⟨_,_,_,_,_⟩ _ h=>hI _ _ _ _ _  h⟩
def o20:=O 15466056
def B20 (P:PT) (N13:Y k3):Y k3:=fun x2 x4 x6 H=>
  L15 P N13 x2 x4 x6 1 H
theorem q20 P N13:Q o20 (E k4 (L15 P N13)) k3 (B20 P N13):=fun _ _ _ _ _=>by kernel_rfl
def o21:=O 3866512
def B21 (P:PT) (N13:Y k3):Y k3:=fun x2 x4 x6 H=>
  pif (decide ((x6:Int)<8)) (B20 P N13 x2 x4 x6 H) (B12 P x2 x4 H)
theorem q21 P N13:Q o21 (cnd 67 (E k3 (B20 P N13)) (E k1 (B12 P))) k3 (B21 P N13):=fun _ _ _ _ _=>by kernel_rfl
def L13 (P:PT):Y k3:=fun x2 x4 x6 H=>
  ∃ (I:Y k3) (μ:NTy k3 (AHeap→Nat)),I x2 x4 x6 H∧∀ y2 y4 y6 G,I y2 y4 y6 G→B21 P (fun z2 z4 z6 G'=>I z2 z4 z6 G'∧μ z2 z4 z6 G'<μ y2 y4 y6 G) y2 y4 y6 G
theorem l13 P:LQ k3 (L13 P) (B21 P):=fun ⟨_,_,_,_⟩ _ ⟨I,μ,h0,hI⟩=>⟨apT _ I,apT _ μ,h0,fun ⟨_,_,_,_⟩ _ h=>hI _ _ _ _  h⟩
def o22:=O 241656
def B22 (P:PT):Y k1:=fun x2 x4 H=>
  L13 P x2 x4 0 H
theorem q22 P:Q o22 (E k3 (L13 P)) k1 (B22 P):=fun _ _ _ _=>by kernel_rfl
def o23:=O 966650
def B23 (P:PT):Y k1:=fun x2 x4 H=>
  AC Tryz.prog T0 105 [(Value.int .i64 10),x4] H (fun v1 H2=>agg2 v1 (fun v3 v4=>asI .i64 v3 (fun v5=>stK H2 x2 0 [(Value.int .i64 v5),v4] (fun H7=>ldI .i64 H7 x2 0 (fun v8=>ld1 H7 x2 1 (fun v9=>P (Value.tuple ⟨[(Value.agg ⟨[(Value.int .i64 v8),v9]⟩),(Value.bool true)]⟩) H7))))))
theorem q23 P:Q o23 (ret P) k1 (B23 P):=fun _ _ _ _=>by kernel_rfl
abbrev k5:Sk:=[(2,.x),(4,.v),(8,J)]
def o25:=O 15466387
def B25 (P:PT) (N24:Y k5):Y k5:=fun x2 x4 x8 H=>
  N24 x2 x4 (IntKind.i64.wrap (x8+1)) H
theorem q25 P N24:Q o25 (E k5 N24) k5 (B25 P N24):=fun _ _ _ _ _=>by kernel_rfl
def o26:=O 30932772
def B26 (P:PT) (N24:Y k5):Y k5:=fun x2 x4 x8 H=>
  newK H [(Value.int .i64 x8),(Value.int .i64 (Int.tmod (IntKind.i64.wrap (x8+1)) 5)),(Value.int .i64 x8),(Value.int .i64 (IntKind.i64.wrap (x8+5))),(Value.int .i64 (IntKind.i64.wrap (x8+5))),(Value.int .i64 (IntKind.i64.wrap ((Int.tmod (IntKind.i64.wrap (x8+2)) 5)+5)))] 84 (fun b1 H2=>apK T0 84 H2 x4 (Value.slice (some ⟨b1,0,none⟩) 3 (3+1)) (fun v3 H4=>B25 P N24 x2 v3 x8 H4))
theorem q26 P N24:Q o26 (E k5 (B25 P N24)) k5 (B26 P N24):=fun _ _ _ _ _=>by kernel_rfl
def o27:=O 15466384
def B27 (P:PT) (N24:Y k5):Y k5:=fun x2 x4 x8 H=>
  pif (decide ((x8:Int)<5)) (B26 P N24 x2 x4 x8 H) (B23 P x2 x4 H)
theorem q27 P N24:Q o27 (cnd 91 (E k5 (B26 P N24)) (E k1 (B23 P))) k5 (B27 P N24):=fun _ _ _ _ _=>by kernel_rfl
def L24 (P:PT):Y k5:=fun x2 x4 x8 H=>
  ∃ (I:Y k5) (μ:NTy k5 (AHeap→Nat)),I x2 x4 x8 H∧∀ y2 y4 y8 G,I y2 y4 y8 G→B27 P (fun z2 z4 z8 G'=>I z2 z4 z8 G'∧μ z2 z4 z8 G'<μ y2 y4 y8 G) y2 y4 y8 G
theorem l24 P:LQ k5 (L24 P) (B27 P):=fun ⟨_,_,_,_⟩ _ ⟨I,μ,h0,hI⟩=>⟨apT _ I,apT _ μ,h0,fun ⟨_,_,_,_⟩ _ h=>hI _ _ _ _  h⟩
def o28:=O 966648
def B28 (P:PT):Y k1:=fun x2 x4 H=>
  L24 P x2 x4 0 H
theorem q28 P:Q o28 (E k5 (L24 P)) k1 (B28 P):=fun _ _ _ _=>by kernel_rfl
def o29:=O 15466478
def B29 (P:PT):Y k1:=fun x2 x4 H=>
  newK H [(Value.int .i64 0),(Value.int .i64 1),(Value.int .i64 10),(Value.int .i64 4),(Value.int .i64 11),(Value.int .i64 5)] 84 (fun b1 H2=>apK T0 84 H2 x4 (Value.slice (some ⟨b1,0,none⟩) 3 (3+1)) (fun v3 H4=>AC Tryz.prog T0 105 [(Value.int .i64 12),v3] H4 (fun v5 H6=>agg2 v5 (fun v7 v8=>asI .i64 v7 (fun v9=>stK H6 x2 0 [(Value.int .i64 v9),v8] (fun H11=>ldI .i64 H11 x2 0 (fun v12=>ld1 H11 x2 1 (fun v13=>P (Value.tuple ⟨[(Value.agg ⟨[(Value.int .i64 v12),v13]⟩),(Value.bool true)]⟩) H11))))))))
theorem q29 P:Q o29 (ret P) k1 (B29 P):=fun _ _ _ _=>by kernel_rfl
def o30:=O 7733238
def B30 (P:PT):Y k1:=fun x2 x4 H=>
  newK H [(Value.int .i64 0),(Value.int .i64 10),(Value.int .i64 11)] 2 (fun b1 H2=>AC Tryz.prog T0 106 [x4,(Value.slice (some ⟨b1,0,none⟩) 3 (3+1))] H2 (fun v3 H4=>B29 P x2 v3 H4))
theorem q30 P:Q o30 (E k1 (B29 P)) k1 (B30 P):=fun _ _ _ _=>by kernel_rfl
abbrev k6:Sk:=[(2,.x),(4,.v),(9,.x),(11,J)]
def o32:=O 123731795
def B32 (P:PT) (N31:Y k6):Y k6:=fun x2 x4 x9 x11 H=>
  N31 x2 x4 x9 (IntKind.i64.wrap (x11+1)) H
theorem q32 P N31:Q o32 (E k6 N31) k6 (B32 P N31):=fun _ _ _ _ _ _=>by kernel_rfl
def o33:=O 989854354
def B33 (P:PT) (N31:Y k6):Y k6:=fun x2 x4 x9 x11 H=>
  ld1 H x9 1 (fun v1=>idxK v1 x11 2 (fun b2 o3=>ldI .i64 H b2 o3 (fun v4=>ldI .i64 H b2 (o3+1) (fun v5=>newK H [(Value.int .i64 v4),(Value.int .i64 v5)] 84 (fun b6 H7=>apK T0 84 H7 x4 (Value.slice (some ⟨b6,0,none⟩) 1 (1+1)) (fun v8 H9=>B32 P N31 x2 v8 x9 x11 H9))))))
theorem q33 P N31:Q o33 (E k6 (B32 P N31)) k6 (B33 P N31):=fun _ _ _ _ _ _=>by kernel_rfl
def o34:=O 494927176
def B34 (P:PT) (N31:Y k6):Y k6:=fun x2 x4 x9 x11 H=>
  ld1 H x9 1 (fun v1=>idxK v1 x11 2 (fun b2 o3=>ldI .i64 H b2 o3 (fun v4=>pif ((v4:Int) != 0) (B33 P N31 x2 x4 x9 x11 H) (B32 P N31 x2 x4 x9 x11 H))))
theorem q34 P N31:Q o34 (cnd 134 (E k6 (B33 P N31)) (E k6 (B32 P N31))) k6 (B34 P N31):=fun _ _ _ _ _ _=>by kernel_rfl
def o35:=O 123731792
def B35 (P:PT) (N31:Y k6):Y k6:=fun x2 x4 x9 x11 H=>
  ld1 H x9 1 (fun v1=>lenK v1 (fun n2=>pif (decide ((x11:Int)<(n2:Int))) (B34 P N31 x2 x4 x9 x11 H) (B30 P x2 x4 H)))
theorem q35 P N31:Q o35 (cnd 125 (E k6 (B34 P N31)) (E k1 (B30 P))) k6 (B35 P N31):=fun _ _ _ _ _ _=>by kernel_rfl
def L31 (P:PT):Y k6:=fun x2 x4 x9 x11 H=>
  ∃ (I:Y k6) (μ:NTy k6 (AHeap→Nat)),I x2 x4 x9 x11 H∧∀ y2 y4 y9 y11 G,I y2 y4 y9 y11 G→B35 P (fun z2 z4 z9 z11 G'=>I z2 z4 z9 z11 G'∧μ z2 z4 z9 z11 G'<μ y2 y4 y9 y11 G) y2 y4 y9 y11 G
theorem l31 P:LQ k6 (L31 P) (B35 P):=fun ⟨_,_,_,_,_⟩ _ ⟨I,μ,h0,hI⟩=>⟨apT _ I,apT _ μ,h0,fun ⟨_,_,_,_,_⟩ _ h=>hI _ _ _ _ _  h⟩
abbrev k7:Sk:=[(2,.x),(4,.v),(9,.x)]
def o36:=O 7733236
def B36 (P:PT):Y k7:=fun x2 x4 x9 H=>
  L31 P x2 x4 x9 0 H
theorem q36 P:Q o36 (E k6 (L31 P)) k7 (B36 P):=fun _ _ _ _ _=>by kernel_rfl
def o37:=O 1933308
def B37 (P:PT):Y k1:=fun x2 x4 H=>
  AC Tryz.prog T0 79 [(Value.string (⟨#[112,101,116,101,114,115,101,110]⟩))] H (fun v1 H2=>tup2 v1 (fun v3 v4=>agg2 v3 (fun v5 v6=>asI .i64 v5 (fun v7=>asB v4 (fun v9=>newK H2 [(Value.int .i64 0),(Value.slice none 0 0)] 26 (fun b10 H11=>stK H11 b10 0 [(Value.int .i64 v7),v6] (fun H12=>B36 P x2 x4 b10 H12)))))))
theorem q37 P:Q o37 (E k7 (B36 P)) k1 (B37 P):=fun _ _ _ _=>by kernel_rfl
def o38:=O 30932982
def B38 (P:PT):Y k1:=fun x2 x4 H=>
  newK H [(Value.int .i64 10),(Value.int .i64 11),(Value.int .i64 12),(Value.int .i64 13),(Value.int .i64 14),(Value.int .i64 15),(Value.int .i64 16),(Value.int .i64 17),(Value.int .i64 18),(Value.int .i64 19)] 2 (fun b1 H2=>AC Tryz.prog T0 106 [x4,(Value.slice (some ⟨b1,0,none⟩) 10 (10+1))] H2 (fun v3 H4=>AC Tryz.prog T0 105 [(Value.int .i64 20),v3] H4 (fun v6 H7=>agg2 v6 (fun v8 v9=>asI .i64 v8 (fun v10=>stK H7 x2 0 [(Value.int .i64 v10),v9] (fun H12=>ldI .i64 H12 x2 0 (fun v13=>ld1 H12 x2 1 (fun v14=>P (Value.tuple ⟨[(Value.agg ⟨[(Value.int .i64 v13),v14]⟩),(Value.bool true)]⟩) H12))))))))
theorem q38 P:Q o38 (ret P) k1 (B38 P):=fun _ _ _ _=>by kernel_rfl
def o39:=O 15466490
def B39 (P:PT):Y k1:=fun x2 x4 H=>
  newK H [(Value.int .i64 5),(Value.int .i64 6),(Value.int .i64 7),(Value.int .i64 8),(Value.int .i64 9)] 2 (fun b1 H2=>AC Tryz.prog T0 106 [x4,(Value.slice (some ⟨b1,0,none⟩) 5 (5+1))] H2 (fun v3 H4=>B38 P x2 v3 H4))
theorem q39 P:Q o39 (E k1 (B38 P)) k1 (B39 P):=fun _ _ _ _=>by kernel_rfl
abbrev k8:Sk:=[(2,.x),(4,.v),(12,J)]
def o41:=O 247463827
def B41 (P:PT) (N40:Y k8):Y k8:=fun x2 x4 x12 H=>
  N40 x2 x4 (IntKind.i64.wrap (x12+1)) H
theorem q41 P N40:Q o41 (E k8 N40) k8 (B41 P N40):=fun _ _ _ _ _=>by kernel_rfl
def o42:=O 494927652
def B42 (P:PT) (N40:Y k8):Y k8:=fun x2 x4 x12 H=>
  newK H [(Value.int .i64 x12),(Value.int .i64 (IntKind.i64.wrap (x12+5))),(Value.int .i64 x12),(Value.int .i64 (IntKind.i64.wrap (x12+10))),(Value.int .i64 x12),(Value.int .i64 (IntKind.i64.wrap (x12+15)))] 84 (fun b1 H2=>apK T0 84 H2 x4 (Value.slice (some ⟨b1,0,none⟩) 3 (3+1)) (fun v3 H4=>B41 P N40 x2 v3 x12 H4))
theorem q42 P N40:Q o42 (E k8 (B41 P N40)) k8 (B42 P N40):=fun _ _ _ _ _=>by kernel_rfl
def o43:=O 247463824
def B43 (P:PT) (N40:Y k8):Y k8:=fun x2 x4 x12 H=>
  pif (decide ((x12:Int)<5)) (B42 P N40 x2 x4 x12 H) (B39 P x2 x4 H)
theorem q43 P N40:Q o43 (cnd 156 (E k8 (B42 P N40)) (E k1 (B39 P))) k8 (B43 P N40):=fun _ _ _ _ _=>by kernel_rfl
def L40 (P:PT):Y k8:=fun x2 x4 x12 H=>
  ∃ (I:Y k8) (μ:NTy k8 (AHeap→Nat)),I x2 x4 x12 H∧∀ y2 y4 y12 G,I y2 y4 y12 G→B43 P (fun z2 z4 z12 G'=>I z2 z4 z12 G'∧μ z2 z4 z12 G'<μ y2 y4 y12 G) y2 y4 y12 G
theorem l40 P:LQ k8 (L40 P) (B43 P):=fun ⟨_,_,_,_⟩ _ ⟨I,μ,h0,hI⟩=>⟨apT _ I,apT _ μ,h0,fun ⟨_,_,_,_⟩ _ h=>hI _ _ _ _  h⟩
def o44:=O 15466488
def B44 (P:PT):Y k1:=fun x2 x4 H=>
  L40 P x2 x4 0 H
theorem q44 P:Q o44 (E k8 (L40 P)) k1 (B44 P):=fun _ _ _ _=>by kernel_rfl
def o45:=O 61865978
def B45 (P:PT):Y k1:=fun x2 x4 H=>
  newK H [(Value.int .i64 4),(Value.int .i64 9)] 84 (fun b1 H2=>apK T0 84 H2 x4 (Value.slice (some ⟨b1,0,none⟩) 1 (1+1)) (fun v3 H4=>AC Tryz.prog T0 105 [(Value.int .i64 10),v3] H4 (fun v5 H6=>agg2 v5 (fun v7 v8=>asI .i64 v7 (fun v9=>stK H6 x2 0 [(Value.int .i64 v9),v8] (fun H11=>ldI .i64 H11 x2 0 (fun v12=>ld1 H11 x2 1 (fun v13=>P (Value.tuple ⟨[(Value.agg ⟨[(Value.int .i64 v12),v13]⟩),(Value.bool true)]⟩) H11))))))))
theorem q45 P:Q o45 (ret P) k1 (B45 P):=fun _ _ _ _=>by kernel_rfl
abbrev k9:Sk:=[(2,.x),(4,.v),(13,J)]
def o47:=O 989855635
def B47 (P:PT) (N46:Y k9):Y k9:=fun x2 x4 x13 H=>
  N46 x2 x4 (IntKind.i64.wrap (x13+5)) H
theorem q47 P N46:Q o47 (E k9 N46) k9 (B47 P N46):=fun _ _ _ _ _=>by kernel_rfl
def o48:=O 1979711268
def B48 (P:PT) (N46:Y k9):Y k9:=fun x2 x4 x13 H=>
  newK H [(Value.int .i64 x13),(Value.int .i64 (IntKind.i64.wrap (x13+2))),(Value.int .i64 x13),(Value.int .i64 (IntKind.i64.wrap (x13+3))),(Value.int .i64 (IntKind.i64.wrap (x13+1))),(Value.int .i64 (IntKind.i64.wrap (x13+2))),(Value.int .i64 (IntKind.i64.wrap (x13+1))),(Value.int .i64 (IntKind.i64.wrap (x13+3))),(Value.int .i64 (IntKind.i64.wrap (x13+2))),(Value.int .i64 (IntKind.i64.wrap (x13+3))),(Value.int .i64 x13),(Value.int .i64 (IntKind.i64.wrap (x13+4))),(Value.int .i64 (IntKind.i64.wrap (x13+1))),(Value.int .i64 (IntKind.i64.wrap (x13+4)))] 84 (fun b1 H2=>apK T0 84 H2 x4 (Value.slice (some ⟨b1,0,none⟩) 7 (7+1)) (fun v3 H4=>B47 P N46 x2 v3 x13 H4))
theorem q48 P N46:Q o48 (E k9 (B47 P N46)) k9 (B48 P N46):=fun _ _ _ _ _=>by kernel_rfl
def o49:=O 989855632
def B49 (P:PT) (N46:Y k9):Y k9:=fun x2 x4 x13 H=>
  pif (decide ((x13:Int)≤5)) (B48 P N46 x2 x4 x13 H) (B45 P x2 x4 H)
theorem q49 P N46:Q o49 (cnd 184 (E k9 (B48 P N46)) (E k1 (B45 P))) k9 (B49 P N46):=fun _ _ _ _ _=>by kernel_rfl
def L46 (P:PT):Y k9:=fun x2 x4 x13 H=>
  ∃ (I:Y k9) (μ:NTy k9 (AHeap→Nat)),I x2 x4 x13 H∧∀ y2 y4 y13 G,I y2 y4 y13 G→B49 P (fun z2 z4 z13 G'=>I z2 z4 z13 G'∧μ z2 z4 z13 G'<μ y2 y4 y13 G) y2 y4 y13 G
theorem l46 P:LQ k9 (L46 P) (B49 P):=fun ⟨_,_,_,_⟩ _ ⟨I,μ,h0,hI⟩=>⟨apT _ I,apT _ μ,h0,fun ⟨_,_,_,_⟩ _ h=>hI _ _ _ _  h⟩
def o50:=O 61865976
def B50 (P:PT):Y k1:=fun x2 x4 H=>
  L46 P x2 x4 0 H
theorem q50 P:Q o50 (E k9 (L46 P)) k1 (B50 P):=fun _ _ _ _=>by kernel_rfl
abbrev k10:Sk:=[(2,.x),(4,.v),(15,.s)]
def o51:=O 7733246
def B51 (P:PT):Y k10:=fun x2 x4 x15 H=>
  pif (ByteArray.toList x15==ByteArray.toList (⟨#[98,114,105,100,103,101]⟩)) (B50 P x2 x4 H) (B1 P x2 H)
theorem q51 P:Q o51 (cnd 181 (E k1 (B50 P)) (E k0 (B1 P))) k10 (B51 P):=fun _ _ _ _ _=>by kernel_rfl
def o52:=O 1933310
def B52 (P:PT):Y k10:=fun x2 x4 x15 H=>
  pif (ByteArray.toList x15==ByteArray.toList (⟨#[102,108,111,119,101,114,53]⟩)) (B44 P x2 x4 H) (B51 P x2 x4 x15 H)
theorem q52 P:Q o52 (cnd 153 (E k1 (B44 P)) (E k10 (B51 P))) k10 (B52 P):=fun _ _ _ _ _=>by kernel_rfl
def o53:=O 483326
def B53 (P:PT):Y k10:=fun x2 x4 x15 H=>
  pif (ByteArray.toList x15==ByteArray.toList (⟨#[116,105,101,116,122,101]⟩)) (B37 P x2 x4 H) (B52 P x2 x4 x15 H)
theorem q53 P:Q o53 (cnd 115 (E k1 (B37 P)) (E k10 (B52 P))) k10 (B53 P):=fun _ _ _ _ _=>by kernel_rfl
def o54:=O 120830
def B54 (P:PT):Y k10:=fun x2 x4 x15 H=>
  pif (ByteArray.toList x15==ByteArray.toList (⟨#[112,101,116,101,114,115,101,110]⟩)) (B28 P x2 x4 H) (B53 P x2 x4 x15 H)
theorem q54 P:Q o54 (cnd 88 (E k1 (B28 P)) (E k10 (B53 P))) k10 (B54 P):=fun _ _ _ _ _=>by kernel_rfl
def o55:=O 30206
def B55 (P:PT):Y k10:=fun x2 x4 x15 H=>
  pif (ByteArray.toList x15==ByteArray.toList (⟨#[99,117,98,101]⟩)) (B22 P x2 x4 H) (B54 P x2 x4 x15 H)
theorem q55 P:Q o55 (cnd 64 (E k1 (B22 P)) (E k10 (B54 P))) k10 (B55 P):=fun _ _ _ _ _=>by kernel_rfl
def o56:=O 7550
def B56 (P:PT):Y k10:=fun x2 x4 x15 H=>
  pif (ByteArray.toList x15==ByteArray.toList (⟨#[112,114,105,115,109]⟩)) (B11 P x2 x4 H) (B55 P x2 x4 x15 H)
theorem q56 P:Q o56 (cnd 50 (E k1 (B11 P)) (E k10 (B55 P))) k10 (B56 P):=fun _ _ _ _ _=>by kernel_rfl
def o57:=O 1886
def B57 (P:PT):Y k10:=fun x2 x4 x15 H=>
  pif (ByteArray.toList x15==ByteArray.toList (⟨#[107,51,51]⟩)) (B9 P x2 x4 H) (B56 P x2 x4 x15 H)
theorem q57 P:Q o57 (cnd 33 (E k1 (B9 P)) (E k10 (B56 P))) k10 (B57 P):=fun _ _ _ _ _=>by kernel_rfl
def o58:=O 470
def B58 (P:PT):Y k10:=fun x2 x4 x15 H=>
  pif (ByteArray.toList x15==ByteArray.toList (⟨#[107,52]⟩)) (B3 P x2 H) (B57 P x2 x4 x15 H)
theorem q58 P:Q o58 (cnd 23 (E k0 (B3 P)) (E k10 (B57 P))) k10 (B58 P):=fun _ _ _ _ _=>by kernel_rfl
def o59:=O 116
def B59 (P:PT):Y k10:=fun x2 x4 x15 H=>
  pif (ByteArray.toList x15==ByteArray.toList (⟨#[116,104,101,116,97]⟩)) (B2 P x2 H) (B58 P x2 x4 x15 H)
theorem q59 P:Q o59 (cnd 16 (E k0 (B2 P)) (E k10 (B58 P))) k10 (B59 P):=fun _ _ _ _ _=>by kernel_rfl
abbrev k11:Sk:=[(0,.s),(2,.x),(4,.v)]
def o60:=O 28
def B60 (P:PT):Y k11:=fun x0 x2 x4 H=>
  B59 P x2 x4 x0 H
theorem q60 P:Q o60 (E k10 (B59 P)) k11 (B60 P):=fun _ _ _ _ _=>by kernel_rfl
abbrev k12:Sk:=[(0,.s),(2,.x)]
def o61:=O 6
def B61 (P:PT):Y k12:=fun x0 x2 H=>
  newK H [] 84 (fun b1 H2=>B60 P x0 x2 (Value.slice (some ⟨b1,0,none⟩) 0 (0+1)) H2)
theorem q61 P:Q o61 (E k11 (B60 P)) k12 (B61 P):=fun _ _ _ _=>by kernel_rfl
abbrev k13:Sk:=[(0,.s)]
def o62:=O 2
def B62 (P:PT):Y k13:=fun x0 H=>
  newK H [(Value.int .i64 0),(Value.slice none 0 0)] 26 (fun b1 H2=>B61 P x0 b1 H2)
theorem q62 P:Q o62 (E k12 (B61 P)) k13 (B62 P):=fun _ _ _=>by kernel_rfl
def code:Code:=(.seq (R 0 o62) (.seq (R 1 o61) (.seq (.seq (R 2 o60) (.block 0 (.seq (R 3 o59) (.cond (.tmp 16) (.seq (R 4 o2) .ret) (.seq (R 5 o58) (.cond (.tmp 23) (.seq (R 6 o3) .ret) (.seq (R 7 o57) (.cond (.tmp 33) (.seq (.seq (R 8 o9) (.block 1 (.loop (.seq (.seq (R 9 o8) (.cond (.tmp 36) .skip (.exit 1))) (.seq (.block 2 (R 11 o7)) (R 10 o6)))))) (.seq (R 12 o4) .ret)) (.seq (R 13 o56) (.cond (.tmp 50) (.seq (R 14 o11) (.seq (R 15 o10) .ret)) (.seq (R 16 o55) (.cond (.tmp 64) (.seq (.seq (R 17 o22) (.block 3 (.loop (.seq (.seq (R 18 o21) (.cond (.tmp 67) .skip (.exit 3))) (.seq (.block 4 (.seq (R 20 o20) (.block 5 (.loop (.seq (.seq (R 21 o19) (.cond (.tmp 71) .skip (.exit 5))) (.seq (.block 6 (.seq (R 23 o18) (.cond (.tmp 77) (R 24 o17) .skip))) (R 22 o16))))))) (R 19 o14)))))) (.seq (R 25 o12) .ret)) (.seq (R 26 o54) (.cond (.tmp 88) (.seq (.seq (R 27 o28) (.block 7 (.loop (.seq (.seq (R 28 o27) (.cond (.tmp 91) .skip (.exit 7))) (.seq (.block 8 (R 30 o26)) (R 29 o25)))))) (.seq (R 31 o23) .ret)) (.seq (R 32 o53) (.cond (.tmp 115) (.seq (R 33 o37) (.seq (.seq (R 34 o36) (.block 9 (.loop (.seq (.seq (R 35 o35) (.cond (.tmp 125) .skip (.exit 9))) (.seq (.block 10 (.seq (R 37 o34) (.cond (.tmp 134) (R 38 o33) .skip))) (R 36 o32)))))) (.seq (R 39 o30) (.seq (R 40 o29) .ret)))) (.seq (R 41 o52) (.cond (.tmp 153) (.seq (.seq (R 42 o44) (.block 11 (.loop (.seq (.seq (R 43 o43) (.cond (.tmp 156) .skip (.exit 11))) (.seq (.block 12 (R 45 o42)) (R 44 o41)))))) (.seq (R 46 o39) (.seq (R 47 o38) .ret))) (.seq (R 48 o51) (.cond (.tmp 181) (.seq (.seq (R 49 o50) (.block 13 (.loop (.seq (.seq (R 50 o49) (.cond (.tmp 184) .skip (.exit 13))) (.seq (.block 14 (R 52 o48)) (R 51 o47)))))) (.seq (R 53 o45) .ret)) .skip)))))))))))))))))))) (.seq (R 54 o1) .ret))))
theorem body:Tryz.f79.body=some code:=by kernel_rfl
theorem main (P:PT):∀ env H,(En 228 k13 (B62 P)) env H→AW Tryz.prog T0 code env H (M (ret P)):=
  (r_seq (b (q62 P)) (r_seq (b (q61 P)) (r_seq (r_seq (b (q60 P)) (r_block (r_seq (b (q59 P)) (r_cond rfl (r_seq (b (q2 P)) r_ret) (r_seq (b (q58 P)) (r_cond rfl (r_seq (b (q3 P)) r_ret) (r_seq (b (q57 P)) (r_cond rfl (r_seq (r_seq (b (q9 P)) (r_block (rL (l5 P) (fun N5=>(r_seq (r_seq (b (q8 P N5)) (r_cond rfl r_skip (r_exit (fun _ _ h=>h)))) (r_seq (r_block (b (q7 P N5))) (b (q6 P N5)))))))) (r_seq (b (q4 P)) r_ret)) (r_seq (b (q56 P)) (r_cond rfl (r_seq (b (q11 P)) (r_seq (b (q10 P)) r_ret)) (r_seq (b (q55 P)) (r_cond rfl (r_seq (r_seq (b (q22 P)) (r_block (rL (l13 P) (fun N13=>(r_seq (r_seq (b (q21 P N13)) (r_cond rfl r_skip (r_exit (fun _ _ h=>h)))) (r_seq (r_block (r_seq (b (q20 P N13)) (r_block (rL (l15 P N13) (fun N15=>(r_seq (r_seq (b (q19 P N13 N15)) (r_cond rfl r_skip (r_exit (fun _ _ h=>h)))) (r_seq (r_block (r_seq (b (q18 P N13 N15)) (r_cond rfl (b (q17 P N13 N15)) r_skip))) (b (q16 P N13 N15))))))))) (b (q14 P N13)))))))) (r_seq (b (q12 P)) r_ret)) (r_seq (b (q54 P)) (r_cond rfl (r_seq (r_seq (b (q28 P)) (r_block (rL (l24 P) (fun N24=>(r_seq (r_seq (b (q27 P N24)) (r_cond rfl r_skip (r_exit (fun _ _ h=>h)))) (r_seq (r_block (b (q26 P N24))) (b (q25 P N24)))))))) (r_seq (b (q23 P)) r_ret)) (r_seq (b (q53 P)) (r_cond rfl (r_seq (b (q37 P)) (r_seq (r_seq (b (q36 P)) (r_block (rL (l31 P) (fun N31=>(r_seq (r_seq (b (q35 P N31)) (r_cond rfl r_skip (r_exit (fun _ _ h=>h)))) (r_seq (r_block (r_seq (b (q34 P N31)) (r_cond rfl (b (q33 P N31)) r_skip))) (b (q32 P N31)))))))) (r_seq (b (q30 P)) (r_seq (b (q29 P)) r_ret)))) (r_seq (b (q52 P)) (r_cond rfl (r_seq (r_seq (b (q44 P)) (r_block (rL (l40 P) (fun N40=>(r_seq (r_seq (b (q43 P N40)) (r_cond rfl r_skip (r_exit (fun _ _ h=>h)))) (r_seq (r_block (b (q42 P N40))) (b (q41 P N40)))))))) (r_seq (b (q39 P)) (r_seq (b (q38 P)) r_ret))) (r_seq (b (q51 P)) (r_cond rfl (r_seq (r_seq (b (q50 P)) (r_block (rL (l46 P) (fun N46=>(r_seq (r_seq (b (q49 P N46)) (r_cond rfl r_skip (r_exit (fun _ _ h=>h)))) (r_seq (r_block (b (q48 P N46))) (b (q47 P N46)))))))) (r_seq (b (q45 P)) r_ret)) r_skip)))))))))))))))))))) (r_seq (b (q1 P)) r_ret))))
theorem ac (P:PT) (x0:ByteArray) (H:AHeap) (h:B62 P x0 H):AC Tryz.prog T0 79 [(Value.string x0)] H P:=
  r_fn T0_ok (c:=code) (n:=228) Tryz.func79 body (by kernel_rfl) (main P) (En_mk (x0,()) (by kernel_rfl) ⟨by kernel_rfl,trivial⟩ h)

end F79
namespace F80
abbrev E:=En 41
abbrev Q:=QB Tryz.prog T0 41
def O (k:Nat):=ob Tryz.f80 (pth k)
def ret (P:PT):EP:=retE T0 41 Tryz.f80 P
abbrev k0:Sk:=[(2,.x),(4,.x),(5,.v)]
def o1:=O 30
def B1 (P:PT):Y k0:=fun x2 x4 x5 H=>
  ldI .i64 H x2 0 (fun v1=>AC Tryz.prog T0 105 [(Value.int .i64 v1),x5] H (fun v2 H3=>agg2 v2 (fun v4 v5=>asI .i64 v4 (fun v6=>stK H3 x4 0 [(Value.int .i64 v6),v5] (fun H8=>ldI .i64 H8 x4 0 (fun v9=>ld1 H8 x4 1 (fun v10=>P (Value.agg ⟨[(Value.int .i64 v9),v10]⟩) H8)))))))
theorem q1 P:Q o1 (ret P) k0 (B1 P):=fun _ _ _ _ _=>by kernel_rfl
abbrev k1:Sk:=[(1,.v),(2,.x),(4,.x),(5,.v),(6,J)]
def o3:=O 467
def B3 (P:PT) (N2:Y k1):Y k1:=fun x1 x2 x4 x5 x6 H=>
  N2 x1 x2 x4 x5 (IntKind.i64.wrap (x6+1)) H
theorem q3 P N2:Q o3 (E k1 N2) k1 (B3 P N2):=fun _ _ _ _ _ _ _=>by kernel_rfl
def o4:=O 932
def B4 (P:PT) (N2:Y k1):Y k1:=fun x1 x2 x4 x5 x6 H=>
  ld1 H x2 1 (fun v1=>idxK v1 x6 2 (fun b2 o3=>ldI .i64 H b2 o3 (fun v4=>idxK x1 v4 1 (fun b5 o6=>ldI .i64 H b5 o6 (fun v7=>ld1 H x2 1 (fun v8=>idxK v8 x6 2 (fun b9 o10=>ldI .i64 H b9 (o10+1) (fun v11=>idxK x1 v11 1 (fun b12 o13=>ldI .i64 H b12 o13 (fun v14=>newK H [(Value.int .i64 v7),(Value.int .i64 v14)] 84 (fun b15 H16=>apK T0 84 H16 x5 (Value.slice (some ⟨b15,0,none⟩) 1 (1+1)) (fun v17 H18=>B3 P N2 x1 x2 x4 v17 x6 H18))))))))))))
theorem q4 (P:PT) (N2:Y k1):QD Tryz.prog T0 41 o4 [(0,false),(1,false),(2,false),(3,false),(4,false),(5,false),(6,false),(7,false),(8,false),(9,false),(10,false),(11,false),(12,false),(13,false),(14,false),(15,false),(16,false),(17,false),(18,false),(19,false),(20,false),(21,false),(22,false)] (En 41 k1 (B3 P N2)) k1 (B4 P N2):=fun _ _ _ _ _ _ _  => by kernel_rfl
def o5:=O 464
def B5 (P:PT) (N2:Y k1):Y k1:=fun x1 x2 x4 x5 x6 H=>
  ld1 H x2 1 (fun v1=>lenK v1 (fun n2=>pif (decide ((x6:Int)<(n2:Int))) (B4 P N2 x1 x2 x4 x5 x6 H) (B1 P x2 x4 x5 H)))
theorem q5 P N2:Q o5 (cnd 12 (E k1 (B4 P N2)) (E k0 (B1 P))) k1 (B5 P N2):=fun _ _ _ _ _ _ _=>by kernel_rfl
def L2 (P:PT):Y k1:=fun x1 x2 x4 x5 x6 H=>
  ∃ (I:Y k1) (μ:NTy k1 (AHeap→Nat)),I x1 x2 x4 x5 x6 H∧∀ y1 y2 y4 y5 y6 G,I y1 y2 y4 y5 y6 G→B5 P (fun z1 z2 z4 z5 z6 G'=>I z1 z2 z4 z5 z6 G'∧μ z1 z2 z4 z5 z6 G'<μ y1 y2 y4 y5 y6 G) y1 y2 y4 y5 y6 G
theorem l2 P:LQ k1 (L2 P) (B5 P):=fun ⟨_,_,_,_,_,_⟩ _ ⟨I,μ,h0,hI⟩=>⟨apT _ I,apT _ μ,h0,fun ⟨_,_,_,_,_,_⟩ _ h=>hI _ _ _ _ _ _  h⟩
abbrev k2:Sk:=[(1,.v),(2,.x),(4,.x),(5,.v)]
def o6:=O 28
def B6 (P:PT):Y k2:=fun x1 x2 x4 x5 H=>
  L2 P x1 x2 x4 x5 0 H
theorem q6 P:Q o6 (E k1 (L2 P)) k2 (B6 P):=fun _ _ _ _ _ _=>by kernel_rfl
abbrev k3:Sk:=[(1,.v),(2,.x),(4,.x)]
def o7:=O 6
def B7 (P:PT):Y k3:=fun x1 x2 x4 H=>
  newK H [] 84 (fun b1 H2=>B6 P x1 x2 x4 (Value.slice (some ⟨b1,0,none⟩) 0 (0+1)) H2)
theorem q7 P:Q o7 (E k2 (B6 P)) k3 (B7 P):=fun _ _ _ _ _=>by kernel_rfl
abbrev k4:Sk:=[(0,.g [.i,.v]),(1,.v)]
def o8:=O 2
def B8 (P:PT):Y k4:=fun x0a x0b x1 H=>
  newK H [(Value.int .i64 x0a),x0b] 26 (fun b1 H2=>newK H2 [(Value.int .i64 0),(Value.slice none 0 0)] 26 (fun b3 H4=>B7 P x1 b1 b3 H4))
theorem q8 P:Q o8 (E k3 (B7 P)) k4 (B8 P):=fun _ _ _ _ _=>by kernel_rfl
def code:Code:=(.seq (R 0 o8) (.seq (R 1 o7) (.seq (.seq (R 2 o6) (.block 0 (.loop (.seq (.seq (R 3 o5) (.cond (.tmp 12) .skip (.exit 0))) (.seq (.block 1 (.region 5 ⟨o4⟩ true)) (R 4 o3)))))) (.seq (R 6 o1) .ret))))
theorem body:Tryz.f80.body=some code:=by kernel_rfl
theorem main (P:PT):∀ env H,(En 41 k4 (B8 P)) env H→AW Tryz.prog T0 code env H (M (ret P)):=
  (r_seq (b (q8 P)) (r_seq (b (q7 P)) (r_seq (r_seq (b (q6 P)) (r_block (rL (l2 P) (fun N2=>(r_seq (r_seq (b (q5 P N2)) (r_cond rfl r_skip (r_exit (fun _ _ h=>h)))) (r_seq (r_block (rD T0_ok mixed [(0,false),(1,false),(2,false),(3,false),(4,false),(5,false),(6,false),(7,false),(8,false),(9,false),(10,false),(11,false),(12,false),(13,false),(14,false),(15,false),(16,false),(17,false),(18,false),(19,false),(20,false),(21,false),(22,false)] (by kernel_rfl) (q4 P N2))) (b (q3 P N2)))))))) (r_seq (b (q1 P)) r_ret))))
theorem ac (P:PT) (x0a:Int) (x0b x1:Value) (H:AHeap) (h:B8 P x0a x0b x1 H):AC Tryz.prog T0 80 [(Value.agg ⟨[(Value.int .i64 x0a),x0b]⟩),x1] H P:=
  r_fn T0_ok (c:=code) (n:=41) Tryz.func80 body (by kernel_rfl) (main P) (En_mk (x0a,x0b,x1,()) (by kernel_rfl) ⟨by kernel_rfl,by kernel_rfl,trivial⟩ h)

end F80
namespace F81
abbrev E:=En 30
abbrev Q:=QB Tryz.prog T0 30
def O (k:Nat):=ob Tryz.f81 (pth k)
def ret (P:PT):EP:=retE T0 30 Tryz.f81 P
abbrev k0:Sk:=[(5,.v)]
def o1:=O 30
def B1 (P:PT):Y k0:=fun x5 H=>
  P x5 H
theorem q1 P:Q o1 (ret P) k0 (B1 P):=fun _ _ _=>by kernel_rfl
abbrev k1:Sk:=[(0,.v),(1,J),(5,.v),(6,J)]
def o3:=O 467
def B3 (P:PT) (N2:Y k1):Y k1:=fun x0 x1 x5 x6 H=>
  N2 x0 x1 x5 (IntKind.i64.wrap (x6+1)) H
theorem q3 P N2:Q o3 (E k1 N2) k1 (B3 P N2):=fun _ _ _ _ _ _=>by kernel_rfl
abbrev k2:Sk:=[(0,.v),(1,J),(5,.v),(6,J),(7,J)]
def o4:=O 1865
def B4 (P:PT) (N2:Y k1):Y k2:=fun x0 x1 x5 x6 x7 H=>
  sliceK H 2 x5 none (some (Value.int .i64 x7)) 1 (fun v1=>sliceK H 2 x5 (some (Value.int .i64 x7)) none 1 (fun v2=>(AC Tryz.prog T0 98 [v1] H (fun v3 H4=>(sliceK H4 2 x5 (some (Value.int .i64 x7)) none 1 (fun v6=>(v6=v2)∧(H4=H4)))∧(newK H4 [(Value.int .i64 x6)] 2 (fun b7 H8=>apK T0 2 H8 v3 (Value.slice (some ⟨b7,0,none⟩) 1 (1+1)) (fun v9 H10=>(sliceK H10 2 x5 (some (Value.int .i64 x7)) none 1 (fun v11=>(v11=v2)∧(H10=H10)))∧(apK T0 2 H10 v9 v2 (fun v12 H13=>B3 P N2 x0 x1 v12 x6 H13)))))))∧(newK H [(Value.int .i64 x6)] 2 (fun b14 H15=>AC Tryz.prog T0 98 [v1] H15 (fun v16 H17=>(sliceK H17 2 x5 (some (Value.int .i64 x7)) none 1 (fun v19=>(v19=v2)∧(H17=H17)))∧(apK T0 2 H17 v16 (Value.slice (some ⟨b14,0,none⟩) 1 (1+1)) (fun v20 H21=>(sliceK H21 2 x5 (some (Value.int .i64 x7)) none 1 (fun v22=>(v22=v2)∧(H21=H21)))∧(apK T0 2 H21 v20 v2 (fun v23 H24=>B3 P N2 x0 x1 v23 x6 H24)))))))))
theorem q4 (P:PT) (N2:Y k1):QT Tryz.prog T0 30 o4 (.op 0 [] (.op 1 [] (.op 2 [] (.op 4 [] (.op 7 [] (.op 8 [] (.op 9 [] (.alt (.op 3 [9] (.op 5 [] (.op 6 [9] (.op 10 [] (.op 11 [] .done))))) (.op 5 [] (.op 3 [9] (.op 6 [9] (.op 10 [] (.op 11 [] .done))))))))))))) (En 30 k1 (B3 P N2)) k2 (B4 P N2):=fun _ _ _ _ _ _ _  => by kernel_rfl
def o5:=O 1864
def B5 (P:PT) (N2:Y k1):Y k1:=fun x0 x1 x5 x6 H=>
  AC Tryz.prog T0 27 [x0,(Value.int .i64 (IntKind.i64.wrap (x6+1)))] H (fun v1 H2=>asI .i64 v1 (fun v3=>B4 P N2 x0 x1 x5 x6 v3 H2))
theorem q5 P N2:Q o5 (E k2 (B4 P N2)) k1 (B5 P N2):=fun _ _ _ _ _ _=>by kernel_rfl
def o6:=O 464
def B6 (P:PT) (N2:Y k1):Y k1:=fun x0 x1 x5 x6 H=>
  pif (decide ((x6:Int)<x1)) (B5 P N2 x0 x1 x5 x6 H) (B1 P x5 H)
theorem q6 P N2:Q o6 (cnd 11 (E k1 (B5 P N2)) (E k0 (B1 P))) k1 (B6 P N2):=fun _ _ _ _ _ _=>by kernel_rfl
def L2 (P:PT):Y k1:=fun x0 x1 x5 x6 H=>
  ∃ (I:Y k1) (μ:NTy k1 (AHeap→Nat)),I x0 x1 x5 x6 H∧∀ y0 y1 y5 y6 G,I y0 y1 y5 y6 G→B6 P (fun z0 z1 z5 z6 G'=>I z0 z1 z5 z6 G'∧μ z0 z1 z5 z6 G'<μ y0 y1 y5 y6 G) y0 y1 y5 y6 G
theorem l2 P:LQ k1 (L2 P) (B6 P):=fun ⟨_,_,_,_,_⟩ _ ⟨I,μ,h0,hI⟩=>⟨apT _ I,apT _ μ,h0,fun ⟨_,_,_,_,_⟩ _ h=>hI _ _ _ _ _  h⟩
abbrev k3:Sk:=[(0,.v),(1,J),(5,.v)]
def o7:=O 28
def B7 (P:PT):Y k3:=fun x0 x1 x5 H=>
  L2 P x0 x1 x5 0 H
theorem q7 P:Q o7 (E k1 (L2 P)) k3 (B7 P):=fun _ _ _ _ _=>by kernel_rfl
abbrev k4:Sk:=[(0,.v),(1,J)]
def o8:=O 6
def B8 (P:PT):Y k4:=fun x0 x1 H=>
  newK H [] 2 (fun b1 H2=>B7 P x0 x1 (Value.slice (some ⟨b1,0,none⟩) 0 (0+1)) H2)
theorem q8 P:Q o8 (E k3 (B7 P)) k4 (B8 P):=fun _ _ _ _=>by kernel_rfl
def o9:=O 2
def B9 (P:PT):Y k4:=fun x0 x1 H=>
  B8 P x0 x1 H
theorem q9 P:Q o9 (E k4 (B8 P)) k4 (B9 P):=fun _ _ _ _=>by kernel_rfl
def code:Code:=(.seq (R 0 o9) (.seq (R 1 o8) (.seq (.seq (R 2 o7) (.block 0 (.loop (.seq (.seq (R 3 o6) (.cond (.tmp 11) .skip (.exit 0))) (.seq (.block 1 (.seq (R 5 o5) (.region 6 ⟨o4⟩ true))) (R 4 o3)))))) (.seq (R 7 o1) .ret))))
theorem body:Tryz.f81.body=some code:=by kernel_rfl
theorem main (P:PT):∀ env H,(En 30 k4 (B9 P)) env H→AW Tryz.prog T0 code env H (M (ret P)):=
  (r_seq (b (q9 P)) (r_seq (b (q8 P)) (r_seq (r_seq (b (q7 P)) (r_block (rL (l2 P) (fun N2=>(r_seq (r_seq (b (q6 P N2)) (r_cond rfl r_skip (r_exit (fun _ _ h=>h)))) (r_seq (r_block (r_seq (b (q5 P N2)) (rT T0_ok mixed (.op 0 [] (.op 1 [] (.op 2 [] (.op 4 [] (.op 7 [] (.op 8 [] (.op 9 [] (.alt (.op 3 [9] (.op 5 [] (.op 6 [9] (.op 10 [] (.op 11 [] .done))))) (.op 5 [] (.op 3 [9] (.op 6 [9] (.op 10 [] (.op 11 [] .done))))))))))))) (by kernel_rfl) (q4 P N2)))) (b (q3 P N2)))))))) (r_seq (b (q1 P)) r_ret))))
theorem ac (P:PT) (x0:Value) (x1:Int) (H:AHeap) (h:B9 P x0 x1 H):AC Tryz.prog T0 81 [x0,(Value.int .i64 x1)] H P:=
  r_fn T0_ok (c:=code) (n:=30) Tryz.func81 body (by kernel_rfl) (main P) (En_mk (x0,x1,()) (by kernel_rfl) ⟨by kernel_rfl,by kernel_rfl,trivial⟩ h)

end F81
namespace F82
abbrev E:=En 47
abbrev Q:=QB Tryz.prog T0 47
def O (k:Nat):=ob Tryz.f82 (pth k)
def ret (P:PT):EP:=retE T0 47 Tryz.f82 P
abbrev k0:Sk:=[(2,.x),(3,.x),(4,.x),(5,.v)]
def o1:=O 30
def B1 (P:PT):Y k0:=fun x2 x3 x4 x5 H=>
  ldI .i64 H x2 0 (fun v1=>ldI .i64 H x3 0 (fun v2=>AC Tryz.prog T0 105 [(Value.int .i64 (IntKind.i64.wrap (v1+v2))),x5] H (fun v3 H4=>agg2 v3 (fun v5 v6=>asI .i64 v5 (fun v7=>stK H4 x4 0 [(Value.int .i64 v7),v6] (fun H9=>ldI .i64 H9 x4 0 (fun v10=>ld1 H9 x4 1 (fun v11=>P (Value.agg ⟨[(Value.int .i64 v10),v11]⟩) H9))))))))
theorem q1 P:Q o1 (ret P) k0 (B1 P):=fun _ _ _ _ _ _=>by kernel_rfl
abbrev k1:Sk:=[(2,.x),(3,.x),(4,.x),(5,.v),(6,J)]
def o3:=O 467
def B3 (P:PT) (N2:Y k1):Y k1:=fun x2 x3 x4 x5 x6 H=>
  N2 x2 x3 x4 x5 (IntKind.i64.wrap (x6+1)) H
theorem q3 P N2:Q o3 (E k1 N2) k1 (B3 P N2):=fun _ _ _ _ _ _ _=>by kernel_rfl
def o4:=O 932
def B4 (P:PT) (N2:Y k1):Y k1:=fun x2 x3 x4 x5 x6 H=>
  ld1 H x3 1 (fun v1=>idxK v1 x6 2 (fun b2 o3=>ldI .i64 H b2 o3 (fun v4=>ldI .i64 H x2 0 (fun v5=>ld1 H x3 1 (fun v6=>idxK v6 x6 2 (fun b7 o8=>ldI .i64 H b7 (o8+1) (fun v9=>ldI .i64 H x2 0 (fun v10=>newK H [(Value.int .i64 (IntKind.i64.wrap (v4+v5))),(Value.int .i64 (IntKind.i64.wrap (v9+v10)))] 84 (fun b11 H12=>apK T0 84 H12 x5 (Value.slice (some ⟨b11,0,none⟩) 1 (1+1)) (fun v13 H14=>B3 P N2 x2 x3 x4 v13 x6 H14))))))))))
theorem q4 (P:PT) (N2:Y k1):QD Tryz.prog T0 47 o4 [(0,false),(1,false),(2,false),(3,false),(4,false),(5,false),(6,false),(7,false),(8,false),(9,false),(10,false),(11,false),(12,false),(13,false),(14,false),(15,false),(16,false),(17,false),(18,false),(19,false),(20,false),(21,false),(22,false)] (En 47 k1 (B3 P N2)) k1 (B4 P N2):=fun _ _ _ _ _ _ _  => by kernel_rfl
def o5:=O 464
def B5 (P:PT) (N2:Y k1):Y k1:=fun x2 x3 x4 x5 x6 H=>
  ld1 H x3 1 (fun v1=>lenK v1 (fun n2=>pif (decide ((x6:Int)<(n2:Int))) (B4 P N2 x2 x3 x4 x5 x6 H) (B1 P x2 x3 x4 x5 H)))
theorem q5 P N2:Q o5 (cnd 15 (E k1 (B4 P N2)) (E k0 (B1 P))) k1 (B5 P N2):=fun _ _ _ _ _ _ _=>by kernel_rfl
def L2 (P:PT):Y k1:=fun x2 x3 x4 x5 x6 H=>
  ∃ (I:Y k1) (μ:NTy k1 (AHeap→Nat)),I x2 x3 x4 x5 x6 H∧∀ y2 y3 y4 y5 y6 G,I y2 y3 y4 y5 y6 G→B5 P (fun z2 z3 z4 z5 z6 G'=>I z2 z3 z4 z5 z6 G'∧μ z2 z3 z4 z5 z6 G'<μ y2 y3 y4 y5 y6 G) y2 y3 y4 y5 y6 G
theorem l2 P:LQ k1 (L2 P) (B5 P):=fun ⟨_,_,_,_,_,_⟩ _ ⟨I,μ,h0,hI⟩=>⟨apT _ I,apT _ μ,h0,fun ⟨_,_,_,_,_,_⟩ _ h=>hI _ _ _ _ _ _  h⟩
def o6:=O 28
def B6 (P:PT):Y k0:=fun x2 x3 x4 x5 H=>
  L2 P x2 x3 x4 x5 0 H
theorem q6 P:Q o6 (E k1 (L2 P)) k0 (B6 P):=fun _ _ _ _ _ _=>by kernel_rfl
abbrev k2:Sk:=[(2,.x),(3,.x),(4,.x)]
def o7:=O 6
def B7 (P:PT):Y k2:=fun x2 x3 x4 H=>
  newK H [] 84 (fun b1 H2=>ld1 H2 x2 1 (fun v3=>apK T0 84 H2 (Value.slice (some ⟨b1,0,none⟩) 0 (0+1)) v3 (fun v4 H5=>B6 P x2 x3 x4 v4 H5)))
theorem q7 P:Q o7 (E k0 (B6 P)) k2 (B7 P):=fun _ _ _ _ _=>by kernel_rfl
abbrev k3:Sk:=[(0,.g [.i,.v]),(1,.g [.i,.v])]
def o8:=O 2
def B8 (P:PT):Y k3:=fun x0a x0b x1a x1b H=>
  newK H [(Value.int .i64 x0a),x0b] 26 (fun b1 H2=>newK H2 [(Value.int .i64 x1a),x1b] 26 (fun b3 H4=>newK H4 [(Value.int .i64 0),(Value.slice none 0 0)] 26 (fun b5 H6=>B7 P b1 b3 b5 H6)))
theorem q8 P:Q o8 (E k2 (B7 P)) k3 (B8 P):=fun _ _ _ _ _ _=>by kernel_rfl
def code:Code:=(.seq (R 0 o8) (.seq (R 1 o7) (.seq (.seq (R 2 o6) (.block 0 (.loop (.seq (.seq (R 3 o5) (.cond (.tmp 15) .skip (.exit 0))) (.seq (.block 1 (.region 5 ⟨o4⟩ true)) (R 4 o3)))))) (.seq (R 6 o1) .ret))))
theorem body:Tryz.f82.body=some code:=by kernel_rfl
theorem main (P:PT):∀ env H,(En 47 k3 (B8 P)) env H→AW Tryz.prog T0 code env H (M (ret P)):=
  (r_seq (b (q8 P)) (r_seq (b (q7 P)) (r_seq (r_seq (b (q6 P)) (r_block (rL (l2 P) (fun N2=>(r_seq (r_seq (b (q5 P N2)) (r_cond rfl r_skip (r_exit (fun _ _ h=>h)))) (r_seq (r_block (rD T0_ok mixed [(0,false),(1,false),(2,false),(3,false),(4,false),(5,false),(6,false),(7,false),(8,false),(9,false),(10,false),(11,false),(12,false),(13,false),(14,false),(15,false),(16,false),(17,false),(18,false),(19,false),(20,false),(21,false),(22,false)] (by kernel_rfl) (q4 P N2))) (b (q3 P N2)))))))) (r_seq (b (q1 P)) r_ret))))
theorem ac (P:PT) (x0a:Int) (x0b:Value) (x1a:Int) (x1b:Value) (H:AHeap) (h:B8 P x0a x0b x1a x1b H):AC Tryz.prog T0 82 [(Value.agg ⟨[(Value.int .i64 x0a),x0b]⟩),(Value.agg ⟨[(Value.int .i64 x1a),x1b]⟩)] H P:=
  r_fn T0_ok (c:=code) (n:=47) Tryz.func82 body (by kernel_rfl) (main P) (En_mk (x0a,x0b,x1a,x1b,()) (by kernel_rfl) ⟨by kernel_rfl,by kernel_rfl,trivial⟩ h)

end F82
namespace F83
abbrev E:=En 87
abbrev Q:=QB Tryz.prog T0 87
def O (k:Nat):=ob Tryz.f83 (pth k)
def ret (P:PT):EP:=retE T0 87 Tryz.f83 P
abbrev k0:Sk:=[(1,J),(4,.x),(12,.v)]
def o1:=O 62
def B1 (P:PT):Y k0:=fun x1 x4 x12 H=>
  AC Tryz.prog T0 105 [(Value.int .i64 x1),x12] H (fun v1 H2=>agg2 v1 (fun v3 v4=>asI .i64 v3 (fun v5=>stK H2 x4 0 [(Value.int .i64 v5),v4] (fun H7=>ldI .i64 H7 x4 0 (fun v8=>ld1 H7 x4 1 (fun v9=>P (Value.agg ⟨[(Value.int .i64 v8),v9]⟩) H7))))))
theorem q1 P:Q o1 (ret P) k0 (B1 P):=fun _ _ _ _ _=>by kernel_rfl
abbrev k1:Sk:=[(1,J),(4,.x),(12,.v),(13,J)]
def o3:=O 979
def B3 (P:PT) (N2:Y k1):Y k1:=fun x1 x4 x12 x13 H=>
  N2 x1 x4 x12 (IntKind.i64.wrap (x13+1)) H
theorem q3 P N2:Q o3 (E k1 N2) k1 (B3 P N2):=fun _ _ _ _ _ _=>by kernel_rfl
def o4:=O 15654
def B4 (P:PT) (N2:Y k1):Y k1:=fun x1 x4 x12 x13 H=>
  newK H [(Value.int .i64 x13),(Value.int .i64 (IntKind.i64.wrap (x13+(IntKind.i64.wrap (Int.tdiv x1 2)))))] 84 (fun b1 H2=>apK T0 84 H2 x12 (Value.slice (some ⟨b1,0,none⟩) 1 (1+1)) (fun v3 H4=>B3 P N2 x1 x4 v3 x13 H4))
theorem q4 P N2:Q o4 (E k1 (B3 P N2)) k1 (B4 P N2):=fun _ _ _ _ _ _=>by kernel_rfl
def o5:=O 7826
def B5 (P:PT) (N2:Y k1):Y k1:=fun x1 x4 x12 x13 H=>
  pif (decide ((x13:Int)<(IntKind.i64.wrap (Int.tdiv x1 2)))) (B4 P N2 x1 x4 x12 x13 H) (B3 P N2 x1 x4 x12 x13 H)
theorem q5 P N2:Q o5 (cnd 74 (E k1 (B4 P N2)) (E k1 (B3 P N2))) k1 (B5 P N2):=fun _ _ _ _ _ _=>by kernel_rfl
def o6:=O 3912
def B6 (P:PT) (N2:Y k1):Y k1:=fun x1 x4 x12 x13 H=>
  nzK x1 (newK H [(Value.int .i64 x13),(Value.int .i64 (Int.tmod (IntKind.i64.wrap (x13+1)) x1))] 84 (fun b1 H2=>apK T0 84 H2 x12 (Value.slice (some ⟨b1,0,none⟩) 1 (1+1)) (fun v3 H4=>B5 P N2 x1 x4 v3 x13 H4)))
theorem q6 P N2:Q o6 (E k1 (B5 P N2)) k1 (B6 P N2):=fun _ _ _ _ _ _=>by kernel_rfl
def o7:=O 976
def B7 (P:PT) (N2:Y k1):Y k1:=fun x1 x4 x12 x13 H=>
  pif (decide ((x13:Int)<x1)) (B6 P N2 x1 x4 x12 x13 H) (B1 P x1 x4 x12 H)
theorem q7 P N2:Q o7 (cnd 59 (E k1 (B6 P N2)) (E k0 (B1 P))) k1 (B7 P N2):=fun _ _ _ _ _ _=>by kernel_rfl
def L2 (P:PT):Y k1:=fun x1 x4 x12 x13 H=>
  ∃ (I:Y k1) (μ:NTy k1 (AHeap→Nat)),I x1 x4 x12 x13 H∧∀ y1 y4 y12 y13 G,I y1 y4 y12 y13 G→B7 P (fun z1 z4 z12 z13 G'=>I z1 z4 z12 z13 G'∧μ z1 z4 z12 z13 G'<μ y1 y4 y12 y13 G) y1 y4 y12 y13 G
theorem l2 P:LQ k1 (L2 P) (B7 P):=fun ⟨_,_,_,_,_⟩ _ ⟨I,μ,h0,hI⟩=>⟨apT _ I,apT _ μ,h0,fun ⟨_,_,_,_,_⟩ _ h=>hI _ _ _ _ _  h⟩
def o8:=O 60
def B8 (P:PT):Y k0:=fun x1 x4 x12 H=>
  L2 P x1 x4 x12 0 H
theorem q8 P:Q o8 (E k1 (L2 P)) k0 (B8 P):=fun _ _ _ _ _=>by kernel_rfl
abbrev k2:Sk:=[(1,J),(4,.x)]
def o9:=O 14
def B9 (P:PT):Y k2:=fun x1 x4 H=>
  newK H [] 84 (fun b1 H2=>B8 P x1 x4 (Value.slice (some ⟨b1,0,none⟩) 0 (0+1)) H2)
theorem q9 P:Q o9 (E k0 (B8 P)) k2 (B9 P):=fun _ _ _ _=>by kernel_rfl
abbrev k3:Sk:=[(0,.v),(1,J),(4,.x),(5,J)]
def o11:=O 211
def B11 (P:PT) (N10:Y k3):Y k3:=fun x0 x1 x4 x5 H=>
  N10 x0 x1 x4 (IntKind.i64.wrap (x5+1)) H
theorem q11 P N10:Q o11 (E k3 N10) k3 (B11 P N10):=fun _ _ _ _ _ _=>by kernel_rfl
abbrev k4:Sk:=[(1,J),(4,.x),(7,.v)]
def o12:=O 13468
def B12 (P:PT) (N10:Y k3):Y k4:=fun x1 x4 x7 H=>
  AC Tryz.prog T0 105 [(Value.int .i64 x1),x7] H (fun v1 H2=>agg2 v1 (fun v3 v4=>asI .i64 v3 (fun v5=>stK H2 x4 0 [(Value.int .i64 v5),v4] (fun H7=>ldI .i64 H7 x4 0 (fun v8=>ld1 H7 x4 1 (fun v9=>P (Value.agg ⟨[(Value.int .i64 v8),v9]⟩) H7))))))
theorem q12 P N10:Q o12 (ret P) k4 (B12 P N10):=fun _ _ _ _ _=>by kernel_rfl
abbrev k5:Sk:=[(0,.v),(1,J),(4,.x),(5,J),(7,.v),(8,.b)]
def o13:=O 3366
def B13 (P:PT) (N10:Y k3):Y k5:=fun x0 x1 x4 x5 x7 x8 H=>
  pif x8 (B12 P N10 x1 x4 x7 H) (B11 P N10 x0 x1 x4 x5 H)
theorem q13 P N10:Q o13 (cnd 52 (E k4 (B12 P N10)) (E k3 (B11 P N10))) k5 (B13 P N10):=fun _ _ _ _ _ _ _ _=>by kernel_rfl
abbrev k6:Sk:=[(0,.v),(1,J),(4,.x),(5,J),(6,.v),(7,.v),(8,.b),(9,J)]
def o15:=O 53843
def B15 (P:PT) (N10:Y k3) (N14:Y k6):Y k6:=fun x0 x1 x4 x5 x6 x7 x8 x9 H=>
  N14 x0 x1 x4 x5 x6 x7 x8 (IntKind.i64.wrap (x9+2)) H
theorem q15 P N10 N14:Q o15 (E k6 N14) k6 (B15 P N10 N14):=fun _ _ _ _ _ _ _ _ _ _=>by kernel_rfl
abbrev k7:Sk:=[(0,.v),(1,J),(4,.x),(5,J),(6,.v),(7,.v),(8,.b),(9,J),(10,J),(11,J)]
def o16:=O 430739
def B16 (P:PT) (N10:Y k3) (N14:Y k6):Y k7:=fun x0 x1 x4 x5 x6 x7 x8 x9 x10 x11 H=>
  pif x8 (B15 P N10 N14 x0 x1 x4 x5 x6 x7 ((x10:Int) != x11) x9 H) (B15 P N10 N14 x0 x1 x4 x5 x6 x7 false x9 H)
theorem q16 P N10 N14:Q o16 (E k6 (B15 P N10 N14)) k7 (B16 P N10 N14):=fun _ _ _ _ _ _ _ _ _ _ _ _=>by kernel_rfl
def o17:=O 430738
def B17 (P:PT) (N10:Y k3) (N14:Y k6):Y k7:=fun x0 x1 x4 x5 x6 x7 x8 x9 x10 x11 H=>
  newK H [(Value.int .i64 x10),(Value.int .i64 x11)] 84 (fun b1 H2=>apK T0 84 H2 x7 (Value.slice (some ⟨b1,0,none⟩) 1 (1+1)) (fun v3 H4=>B16 P N10 N14 x0 x1 x4 x5 x6 v3 x8 x9 x10 x11 H4))
theorem q17 P N10 N14:Q o17 (E k7 (B16 P N10 N14)) k7 (B17 P N10 N14):=fun _ _ _ _ _ _ _ _ _ _ _ _=>by kernel_rfl
def o18:=O 215368
def B18 (P:PT) (N10:Y k3) (N14:Y k6):Y k6:=fun x0 x1 x4 x5 x6 x7 x8 x9 H=>
  idxK x6 x9 1 (fun b1 o2=>ldI .i64 H b1 o2 (fun v3=>idxK x6 (IntKind.i64.wrap (x9+1)) 1 (fun b4 o5=>ldI .i64 H b4 o5 (fun v6=>B17 P N10 N14 x0 x1 x4 x5 x6 x7 x8 x9 (IntKind.i64.wrap (Int.tdiv v3 3)) (IntKind.i64.wrap (Int.tdiv v6 3)) H))))
theorem q18 (P:PT) (N10:Y k3) (N14:Y k6):QD Tryz.prog T0 87 o18 [(0,false),(1,false),(2,false),(3,false),(4,false),(5,false),(6,false),(7,false),(8,false),(9,false),(10,false),(11,false),(12,false)] (En 87 k7 (B17 P N10 N14)) k6 (B18 P N10 N14):=fun _ _ _ _ _ _ _ _ _ _  => by kernel_rfl
def o19:=O 53840
def B19 (P:PT) (N10:Y k3) (N14:Y k6):Y k6:=fun x0 x1 x4 x5 x6 x7 x8 x9 H=>
  lenK x6 (fun n1=>pif (decide ((x9:Int)<(n1:Int))) (B18 P N10 N14 x0 x1 x4 x5 x6 x7 x8 x9 H) (B13 P N10 x0 x1 x4 x5 x7 x8 H))
theorem q19 P N10 N14:Q o19 (cnd 26 (E k6 (B18 P N10 N14)) (E k5 (B13 P N10))) k6 (B19 P N10 N14):=fun _ _ _ _ _ _ _ _ _ _=>by kernel_rfl
def L14 (P:PT) (N10:Y k3):Y k6:=fun x0 x1 x4 x5 x6 x7 x8 x9 H=>
  ∃ (I:Y k6) (μ:NTy k6 (AHeap→Nat)),I x0 x1 x4 x5 x6 x7 x8 x9 H∧∀ y0 y1 y4 y5 y6 y7 y8 y9 G,I y0 y1 y4 y5 y6 y7 y8 y9 G→B19 P N10 (fun z0 z1 z4 z5 z6 z7 z8 z9 G'=>I z0 z1 z4 z5 z6 z7 z8 z9 G'∧μ z0 z1 z4 z5 z6 z7 z8 z9 G'<μ y0 y1 y4 y5 y6 y7 y8 y9 G) y0 y1 y4 y5 y6 y7 y8 y9 G
theorem l14 P N10:LQ k6 (L14 P N10) (B19 P N10):=fun ⟨_,_,_,_,_,_,_,_,_⟩ _ ⟨I,μ,h0,hI⟩=>⟨apT _ I,apT _ μ,h0,fun ⟨_,_,_,_,_,_,_,_,_⟩ _ h=>hI _ _ _ _ _ _ _ _ _  h⟩
abbrev k8:Sk:=[(0,.v),(1,J),(4,.x),(5,J),(6,.v),(7,.v),(8,.b)]
def o20:=O 3364
def B20 (P:PT) (N10:Y k3):Y k8:=fun x0 x1 x4 x5 x6 x7 x8 H=>
  L14 P N10 x0 x1 x4 x5 x6 x7 x8 0 H
theorem q20 P N10:Q o20 (E k6 (L14 P N10)) k8 (B20 P N10):=fun _ _ _ _ _ _ _ _ _=>by kernel_rfl
def o21:=O 840
def B21 (P:PT) (N10:Y k3):Y k3:=fun x0 x1 x4 x5 H=>
  AC Tryz.prog T0 81 [x0,(Value.int .i64 (IntKind.i64.wrap (3*x1)))] H (fun v1 H2=>newK H2 [] 84 (fun b4 H5=>B20 P N10 x0 x1 x4 x5 v1 (Value.slice (some ⟨b4,0,none⟩) 0 (0+1)) true H5))
theorem q21 P N10:Q o21 (E k8 (B20 P N10)) k3 (B21 P N10):=fun _ _ _ _ _ _=>by kernel_rfl
def o22:=O 208
def B22 (P:PT) (N10:Y k3):Y k3:=fun x0 x1 x4 x5 H=>
  pif (decide ((x5:Int)<20)) (B21 P N10 x0 x1 x4 x5 H) (B9 P x1 x4 H)
theorem q22 P N10:Q o22 (cnd 15 (E k3 (B21 P N10)) (E k2 (B9 P))) k3 (B22 P N10):=fun _ _ _ _ _ _=>by kernel_rfl
def L10 (P:PT):Y k3:=fun x0 x1 x4 x5 H=>
  ∃ (I:Y k3) (μ:NTy k3 (AHeap→Nat)),I x0 x1 x4 x5 H∧∀ y0 y1 y4 y5 G,I y0 y1 y4 y5 G→B22 P (fun z0 z1 z4 z5 G'=>I z0 z1 z4 z5 G'∧μ z0 z1 z4 z5 G'<μ y0 y1 y4 y5 G) y0 y1 y4 y5 G
theorem l10 P:LQ k3 (L10 P) (B22 P):=fun ⟨_,_,_,_,_⟩ _ ⟨I,μ,h0,hI⟩=>⟨apT _ I,apT _ μ,h0,fun ⟨_,_,_,_,_⟩ _ h=>hI _ _ _ _ _  h⟩
abbrev k9:Sk:=[(0,.v),(1,J),(4,.x)]
def o23:=O 12
def B23 (P:PT):Y k9:=fun x0 x1 x4 H=>
  L10 P x0 x1 x4 0 H
theorem q23 P:Q o23 (E k3 (L10 P)) k9 (B23 P):=fun _ _ _ _ _=>by kernel_rfl
abbrev k10:Sk:=[(0,.v),(1,J)]
def o24:=O 2
def B24 (P:PT):Y k10:=fun x0 x1 H=>
  newK H [(Value.int .i64 0),(Value.slice none 0 0)] 26 (fun b1 H2=>B23 P x0 x1 b1 H2)
theorem q24 P:Q o24 (E k9 (B23 P)) k10 (B24 P):=fun _ _ _ _=>by kernel_rfl
def code:Code:=(.seq (R 0 o24) (.seq (.seq (R 1 o23) (.block 0 (.loop (.seq (.seq (R 2 o22) (.cond (.tmp 15) .skip (.exit 0))) (.seq (.block 1 (.seq (R 4 o21) (.seq (.seq (R 5 o20) (.block 2 (.loop (.seq (.seq (R 6 o19) (.cond (.tmp 26) .skip (.exit 2))) (.seq (.block 3 (.seq (.region 8 ⟨o18⟩ true) (.seq (R 9 o17) (R 10 o16)))) (R 7 o15)))))) (.seq (R 11 o13) (.cond (.tmp 52) (.seq (R 12 o12) .ret) .skip))))) (R 3 o11)))))) (.seq (R 13 o9) (.seq (.seq (R 14 o8) (.block 4 (.loop (.seq (.seq (R 15 o7) (.cond (.tmp 59) .skip (.exit 4))) (.seq (.block 5 (.seq (R 17 o6) (.seq (R 18 o5) (.cond (.tmp 74) (R 19 o4) .skip)))) (R 16 o3)))))) (.seq (R 20 o1) .ret)))))
theorem body:Tryz.f83.body=some code:=by kernel_rfl
theorem main (P:PT):∀ env H,(En 87 k10 (B24 P)) env H→AW Tryz.prog T0 code env H (M (ret P)):=
  (r_seq (b (q24 P)) (r_seq (r_seq (b (q23 P)) (r_block (rL (l10 P) (fun N10=>(r_seq (r_seq (b (q22 P N10)) (r_cond rfl r_skip (r_exit (fun _ _ h=>h)))) (r_seq (r_block (r_seq (b (q21 P N10)) (r_seq (r_seq (b (q20 P N10)) (r_block (rL (l14 P N10) (fun N14=>(r_seq (r_seq (b (q19 P N10 N14)) (r_cond rfl r_skip (r_exit (fun _ _ h=>h)))) (r_seq (r_block (r_seq (rD T0_ok mixed [(0,false),(1,false),(2,false),(3,false),(4,false),(5,false),(6,false),(7,false),(8,false),(9,false),(10,false),(11,false),(12,false)] (by kernel_rfl) (q18 P N10 N14)) (r_seq (b (q17 P N10 N14)) (b (q16 P N10 N14))))) (b (q15 P N10 N14)))))))) (r_seq (b (q13 P N10)) (r_cond rfl (r_seq (b (q12 P N10)) r_ret) r_skip))))) (b (q11 P N10)))))))) (r_seq (b (q9 P)) (r_seq (r_seq (b (q8 P)) (r_block (rL (l2 P) (fun N2=>(r_seq (r_seq (b (q7 P N2)) (r_cond rfl r_skip (r_exit (fun _ _ h=>h)))) (r_seq (r_block (r_seq (b (q6 P N2)) (r_seq (b (q5 P N2)) (r_cond rfl (b (q4 P N2)) r_skip)))) (b (q3 P N2)))))))) (r_seq (b (q1 P)) r_ret)))))
theorem ac (P:PT) (x0:Value) (x1:Int) (H:AHeap) (h:B24 P x0 x1 H):AC Tryz.prog T0 83 [x0,(Value.int .i64 x1)] H P:=
  r_fn T0_ok (c:=code) (n:=87) Tryz.func83 body (by kernel_rfl) (main P) (En_mk (x0,x1,()) (by kernel_rfl) ⟨by kernel_rfl,by kernel_rfl,trivial⟩ h)

end F83
namespace F84
abbrev E:=En 20
abbrev Q:=QB Tryz.prog T0 20
def O (k:Nat):=ob Tryz.f84 (pth k)
def ret (P:PT):EP:=retE T0 20 Tryz.f84 P
abbrev k0:Sk:=[(1,.v),(2,.x)]
def o1:=O 6
def B1 (P:PT):Y k0:=fun x1 x2 H=>
  ldI .i64 H x2 0 (fun v1=>AC Tryz.prog T0 107 [(Value.int .i64 v1)] H (fun v2 H3=>asB v2 (fun v4=>pif v4 (ldI .i64 H3 x2 0 (fun v5=>AC Tryz.prog T0 58 [x1] H3 (fun v6 H7=>asI .i64 v6 (fun v8=>(AHeap.le H3 H7)∧(pif ((v8:Int)==(IntKind.i64.wrap (Int.tdiv (IntKind.i64.wrap (3*v5)) 2))) (AC Tryz.prog T0 85 [x1,(Value.func (.func 108) ⟨[]⟩ ⟨[(Value.pointer (some ⟨x2,0,none⟩))]⟩)] H7 (fun v9 H10=>asB v9 (fun v11=>P (Value.bool v11) H10))) (P (Value.bool false) H7)))))) (P (Value.bool false) H3))))
theorem q1 (P:PT):QD Tryz.prog T0 20 o1 [(0,false),(1,false),(2,false),(3,false),(5,false),(6,false),(7,false),(4,true),(8,false),(9,false),(10,false),(11,false),(12,false),(13,false),(14,false),(15,false)] (ret P) k0 (B1 P):=fun _ _ _ _  => by kernel_rfl
abbrev k1:Sk:=[(0,J),(1,.v)]
def o2:=O 2
def B2 (P:PT):Y k1:=fun x0 x1 H=>
  newK H [(Value.int .i64 x0)] 2 (fun b1 H2=>B1 P x1 b1 H2)
theorem q2 P:Q o2 (E k0 (B1 P)) k1 (B2 P):=fun _ _ _ _=>by kernel_rfl
def code:Code:=(.seq (R 0 o2) (.seq (.region 1 ⟨o1⟩ true) .ret))
theorem body:Tryz.f84.body=some code:=by kernel_rfl
theorem main (P:PT):∀ env H,(En 20 k1 (B2 P)) env H→AW Tryz.prog T0 code env H (M (ret P)):=
  (r_seq (b (q2 P)) (r_seq (rD T0_ok mixed [(0,false),(1,false),(2,false),(3,false),(5,false),(6,false),(7,false),(4,true),(8,false),(9,false),(10,false),(11,false),(12,false),(13,false),(14,false),(15,false)] (by kernel_rfl) (q1 P)) r_ret))
theorem ac (P:PT) (x0:Int) (x1:Value) (H:AHeap) (h:B2 P x0 x1 H):AC Tryz.prog T0 84 [(Value.int .i64 x0),x1] H P:=
  r_fn T0_ok (c:=code) (n:=20) Tryz.func84 body (by kernel_rfl) (main P) (En_mk (x0,x1,()) (by kernel_rfl) ⟨by kernel_rfl,by kernel_rfl,trivial⟩ h)

end F84
namespace F85
abbrev E:=En 9
abbrev Q:=QB Tryz.prog T0 9
def O (k:Nat):=ob Tryz.f85 (pth k)
def ret (P:PT):EP:=retE T0 9 Tryz.f85 P
abbrev k0:Sk:=[(0,.v),(3,.x)]
def o1:=O 6
def B1 (P:PT):Y k0:=fun x0 x3 H=>
  AC Tryz.prog T0 109 [x0,(Value.func (.func 110) ⟨[]⟩ ⟨[(Value.pointer (some ⟨x3,0,none⟩))]⟩)] H (fun v1 H2=>asB v1 (fun v3=>P (Value.bool (!v3)) H2))
theorem q1 P:Q o1 (ret P) k0 (B1 P):=fun _ _ _ _=>by kernel_rfl
abbrev k1:Sk:=[(0,.v),(1,.v)]
def o2:=O 2
def B2 (P:PT):Y k1:=fun x0 x1 H=>
  pif (Value.oneCell' x1) (newK H [x1] 113 (fun b1 H2=>B1 P x0 b1 H2)) False
theorem q2 P:Q o2 (E k0 (B1 P)) k1 (B2 P):=fun _ _ _ _=>by kernel_rfl
def code:Code:=(.seq (R 0 o2) (.seq (R 1 o1) .ret))
theorem body:Tryz.f85.body=some code:=by kernel_rfl
theorem main (P:PT):∀ env H,(En 9 k1 (B2 P)) env H→AW Tryz.prog T0 code env H (M (ret P)):=
  (r_seq (b (q2 P)) (r_seq (b (q1 P)) r_ret))
theorem ac (P:PT) (x0 x1:Value) (H:AHeap) (h:B2 P x0 x1 H):AC Tryz.prog T0 85 [x0,x1] H P:=
  r_fn T0_ok (c:=code) (n:=9) Tryz.func85 body (by kernel_rfl) (main P) (En_mk (x0,x1,()) (by kernel_rfl) ⟨by kernel_rfl,by kernel_rfl,trivial⟩ h)

end F85
namespace F86
abbrev E:=En 8
abbrev Q:=QB Tryz.prog T0 8
def O (k:Nat):=ob Tryz.f86 (pth k)
def ret (P:PT):EP:=retE T0 8 Tryz.f86 P
abbrev k0:Sk:=[(1,.x)]
def o1:=O 6
def B1 (P:PT):Y k0:=fun x1 H=>
  ldI .i64 H x1 0 (fun v1=>ldI .i64 H x1 1 (fun v2=>P (Value.bool (decide ((v1:Int)<v2))) H))
theorem q1 P:Q o1 (ret P) k0 (B1 P):=fun _ _ _=>by kernel_rfl
abbrev k1:Sk:=[(0,.g [.i,.i])]
def o2:=O 2
def B2 (P:PT):Y k1:=fun x0a x0b H=>
  newK H [(Value.int .i64 x0a),(Value.int .i64 x0b)] 84 (fun b1 H2=>B1 P b1 H2)
theorem q2 P:Q o2 (E k0 (B1 P)) k1 (B2 P):=fun _ _ _ _=>by kernel_rfl
def code:Code:=(.seq (R 0 o2) (.seq (R 1 o1) .ret))
theorem body:Tryz.f86.body=some code:=by kernel_rfl
theorem main (P:PT):∀ env H,(En 8 k1 (B2 P)) env H→AW Tryz.prog T0 code env H (M (ret P)):=
  (r_seq (b (q2 P)) (r_seq (b (q1 P)) r_ret))
theorem ac (P:PT) (x0a x0b:Int) (H:AHeap) (h:B2 P x0a x0b H):AC Tryz.prog T0 86 [(Value.agg ⟨[(Value.int .i64 x0a),(Value.int .i64 x0b)]⟩)] H P:=
  r_fn T0_ok (c:=code) (n:=8) Tryz.func86 body (by kernel_rfl) (main P) (En_mk (x0a,x0b,()) (by kernel_rfl) ⟨by kernel_rfl,trivial⟩ h)

end F86
namespace F87
abbrev E:=En 25
abbrev Q:=QB Tryz.prog T0 25
def O (k:Nat):=ob Tryz.f87 (pth k)
def ret (P:PT):EP:=retE T0 25 Tryz.f87 P
abbrev k0:Sk:=[]
def o1:=O 14
def B1 (P:PT):Y k0:=fun H=>
  P (Value.bool true) H
theorem q1 P:Q o1 (ret P) k0 (B1 P):=fun _ _=>by kernel_rfl
abbrev k1:Sk:=[(0,.v),(1,.v),(5,J)]
def o3:=O 211
def B3 (P:PT) (N2:Y k1):Y k1:=fun x0 x1 x5 H=>
  N2 x0 x1 (IntKind.i64.wrap (x5-1)) H
theorem q3 P N2:Q o3 (E k1 N2) k1 (B3 P N2):=fun _ _ _ _ _=>by kernel_rfl
def o4:=O 3364
def B4 (P:PT) (N2:Y k1):Y k0:=fun H=>
  P (Value.bool false) H
theorem q4 P N2:Q o4 (ret P) k0 (B4 P N2):=fun _ _=>by kernel_rfl
def o5:=O 840
def B5 (P:PT) (N2:Y k1):Y k1:=fun x0 x1 x5 H=>
  idxK x0 x5 2 (fun b1 o2=>ldI .i64 H b1 o2 (fun v3=>ldI .i64 H b1 (o2+1) (fun v4=>idxK x0 (IntKind.i64.wrap (x5-1)) 2 (fun b5 o6=>ldI .i64 H b5 o6 (fun v7=>ldI .i64 H b5 (o6+1) (fun v8=>callV Tryz.prog T0 x1 [(Value.agg ⟨[(Value.int .i64 v3),(Value.int .i64 v4)]⟩),(Value.agg ⟨[(Value.int .i64 v7),(Value.int .i64 v8)]⟩)] H (fun v9 H10=>asI .i64 v9 (fun v11=>pif (decide ((v11:Int)<0)) (B4 P N2 H10) (B3 P N2 x0 x1 x5 H10)))))))))
theorem q5 (P:PT) (N2:Y k1):QD Tryz.prog T0 25 o5 [(0,false),(1,false),(2,false),(3,false),(4,false),(5,false),(6,false),(7,false),(8,false),(9,false),(10,false),(11,false)] (cnd 24 (En 25 k0 (B4 P N2)) (En 25 k1 (B3 P N2))) k1 (B5 P N2):=fun _ _ _ _ _  => by kernel_rfl
def o6:=O 208
def B6 (P:PT) (N2:Y k1):Y k1:=fun x0 x1 x5 H=>
  pif (decide ((x5:Int)>0)) (B5 P N2 x0 x1 x5 H) (B1 P H)
theorem q6 P N2:Q o6 (cnd 10 (E k1 (B5 P N2)) (E k0 (B1 P))) k1 (B6 P N2):=fun _ _ _ _ _=>by kernel_rfl
def L2 (P:PT):Y k1:=fun x0 x1 x5 H=>
  ∃ (I:Y k1) (μ:NTy k1 (AHeap→Nat)),I x0 x1 x5 H∧∀ y0 y1 y5 G,I y0 y1 y5 G→B6 P (fun z0 z1 z5 G'=>I z0 z1 z5 G'∧μ z0 z1 z5 G'<μ y0 y1 y5 G) y0 y1 y5 G
theorem l2 P:LQ k1 (L2 P) (B6 P):=fun ⟨_,_,_,_⟩ _ ⟨I,μ,h0,hI⟩=>⟨apT _ I,apT _ μ,h0,fun ⟨_,_,_,_⟩ _ h=>hI _ _ _ _  h⟩
abbrev k2:Sk:=[(0,.v),(1,.v)]
def o7:=O 12
def B7 (P:PT):Y k2:=fun x0 x1 H=>
  lenK x0 (fun n1=>L2 P x0 x1 (IntKind.i64.wrap ((n1:Int)-1)) H)
theorem q7 P:Q o7 (E k1 (L2 P)) k2 (B7 P):=fun _ _ _ _=>by kernel_rfl
def o8:=O 2
def B8 (P:PT):Y k2:=fun x0 x1 H=>
  B7 P x0 x1 H
theorem q8 P:Q o8 (E k2 (B7 P)) k2 (B8 P):=fun _ _ _ _=>by kernel_rfl
def code:Code:=(.seq (R 0 o8) (.seq (.seq (R 1 o7) (.block 0 (.loop (.seq (.seq (R 2 o6) (.cond (.tmp 10) .skip (.exit 0))) (.seq (.block 1 (.seq (.region 4 ⟨o5⟩ true) (.cond (.tmp 24) (.seq (R 5 o4) .ret) .skip))) (R 3 o3)))))) (.seq (R 6 o1) .ret)))
theorem body:Tryz.f87.body=some code:=by kernel_rfl
theorem main (P:PT):∀ env H,(En 25 k2 (B8 P)) env H→AW Tryz.prog T0 code env H (M (ret P)):=
  (r_seq (b (q8 P)) (r_seq (r_seq (b (q7 P)) (r_block (rL (l2 P) (fun N2=>(r_seq (r_seq (b (q6 P N2)) (r_cond rfl r_skip (r_exit (fun _ _ h=>h)))) (r_seq (r_block (r_seq (rD T0_ok mixed [(0,false),(1,false),(2,false),(3,false),(4,false),(5,false),(6,false),(7,false),(8,false),(9,false),(10,false),(11,false)] (by kernel_rfl) (q5 P N2)) (r_cond rfl (r_seq (b (q4 P N2)) r_ret) r_skip))) (b (q3 P N2)))))))) (r_seq (b (q1 P)) r_ret)))
theorem ac (P:PT) (x0 x1:Value) (H:AHeap) (h:B8 P x0 x1 H):AC Tryz.prog T0 87 [x0,x1] H P:=
  r_fn T0_ok (c:=code) (n:=25) Tryz.func87 body (by kernel_rfl) (main P) (En_mk (x0,x1,()) (by kernel_rfl) ⟨by kernel_rfl,by kernel_rfl,trivial⟩ h)

end F87
namespace F88
abbrev E:=En 8
abbrev Q:=QB Tryz.prog T0 8
def O (k:Nat):=ob Tryz.f88 (pth k)
def ret (P:PT):EP:=retE T0 8 Tryz.f88 P
abbrev k0:Sk:=[(2,.x),(3,.x)]
def o1:=O 6
def B1 (P:PT):Y k0:=fun x2 x3 H=>
  AC Tryz.prog T0 111 [(Value.slice (some ⟨x2,0,none⟩) 2 (2+1)),(Value.slice (some ⟨x3,0,none⟩) 2 (2+1))] H (fun v1 H2=>asI .i64 v1 (fun v3=>P (Value.int .i64 v3) H2))
theorem q1 (P:PT):QD Tryz.prog T0 8 o1 [(0,false),(1,false),(2,false),(3,false)] (ret P) k0 (B1 P):=fun _ _ _ _  => by kernel_rfl
abbrev k1:Sk:=[(0,.g [.i,.i]),(1,.g [.i,.i])]
def o2:=O 2
def B2 (P:PT):Y k1:=fun x0a x0b x1a x1b H=>
  newK H [(Value.int .i64 x0a),(Value.int .i64 x0b)] 84 (fun b1 H2=>newK H2 [(Value.int .i64 x1a),(Value.int .i64 x1b)] 84 (fun b3 H4=>B1 P b1 b3 H4))
theorem q2 P:Q o2 (E k0 (B1 P)) k1 (B2 P):=fun _ _ _ _ _ _=>by kernel_rfl
def code:Code:=(.seq (R 0 o2) (.seq (.region 1 ⟨o1⟩ true) .ret))
theorem body:Tryz.f88.body=some code:=by kernel_rfl
theorem main (P:PT):∀ env H,(En 8 k1 (B2 P)) env H→AW Tryz.prog T0 code env H (M (ret P)):=
  (r_seq (b (q2 P)) (r_seq (rD T0_ok mixed [(0,false),(1,false),(2,false),(3,false)] (by kernel_rfl) (q1 P)) r_ret))
theorem ac (P:PT) (x0a x0b x1a x1b:Int) (H:AHeap) (h:B2 P x0a x0b x1a x1b H):AC Tryz.prog T0 88 [(Value.agg ⟨[(Value.int .i64 x0a),(Value.int .i64 x0b)]⟩),(Value.agg ⟨[(Value.int .i64 x1a),(Value.int .i64 x1b)]⟩)] H P:=
  r_fn T0_ok (c:=code) (n:=8) Tryz.func88 body (by kernel_rfl) (main P) (En_mk (x0a,x0b,x1a,x1b,()) (by kernel_rfl) ⟨by kernel_rfl,by kernel_rfl,trivial⟩ h)

end F88
end
end Go.Proofs
